/- Own texts, merged by a program: the engine that walks the code, and what the functions that the law reaches compute. -/
import Derived.Test.YtkjnhkoipgdfeaaGreatDoorXc1
import Derived.OrdersIn
import Derived.Lib.LaidTab
import Derived.Sort.Grow
import Derived.Deep.Draws
import Derived.ChangeSame
import Derived.ChangeShapes
import Derived.RowKit
import Derived.RangeFuncLeaves
import Derived.RangeFuncIn
import Derived.RangeFuncRecord
import Derived.Deep.Slices
import Derived.OpenShut
import Derived.Carry
import Derived.Shelf.Vars
section
set_option linter.unusedSimpArgs false
namespace GoV
open Go
section
variable {P : Program} {b : Frame} {a : Act} {k : List Item} {cs : List Frame} {w : World} {Q : Exit → Act → World → Prop} {F : Fence} {n : Nat}
theorem zCa {c : Code} : step P (lone (b.atR a (.code (.scope c) :: k)) cs w) = .next (lone (b.atR a (.code c :: .inScope c :: k)) cs w) :=
 step_lone_go (by simp [stepG, stepG.exec, Frame.atR])
theorem stepR_inScope {c : Code} : step P (lone (b.atR a (.inScope c :: k)) cs w) = .next (lone (b.atR a k) cs w) :=
 step_lone_go (by simp [stepG, stepG.exec, Frame.atR])
theorem wpIn_scope {c : Code} (h : c.wpIn F n P Q a w) (hg : ∀ l a w, ¬ Q (.goto l) a w) : (Code.scope c).wpIn F n P Q a w := by
 intro b k cs hro hb hr
 have h0 : (lone (b.atR a (.code (.scope c) :: k)) cs w).fenced P F := fenced_calm hb hr rfl
 obtain ⟨e, a₁, w₁, hq, harr⟩ := h b (.inScope c :: k) cs hro hb hr
 cases e with
 | normal => exact ⟨.normal, a₁, w₁, hq, .head h0 zCa (StepsIn.trans harr (.one (fenced_calm hb hr rfl) stepR_inScope))⟩
 | exit id =>
   have hx : exitTo id (.inScope c :: k) = exitTo id k := by simp [exitTo]
   exact ⟨.exit id, a₁, w₁, hq, fun k' hk => .head h0 zCa (harr.1 k' (by rw [hx]; exact hk)),
    fun hr' hk => let ⟨k₁, h1, h2⟩ := harr.2 hr' (by rw [hx]; exact hk); ⟨k₁, h1, .head h0 zCa h2⟩⟩
 | goto l => exact (hg _ _ _ hq).elim
 | ret => exact ⟨_, a₁, w₁, hq, .of_steps (.one h0 zCa) harr⟩
 | panic ch => exact ⟨_, a₁, w₁, hq, .of_steps (.one h0 zCa) harr⟩
 | outgrown => exact ⟨_, a₁, w₁, hq, .of_steps (.one h0 zCa) harr⟩
end
inductive RC where
 | skip
 | reg (ros : List RO)
 | regD (qs : List (RO × Bool)) (ros : List RO)
 | seq (a b : RC)
 | cond (c : Opd) (a b : RC)
 | block (id : Nat) (b : RC)
 | loop (b : RC)
 | scope (b : RC)
 | exit (id : Nat)
 | ret
 | rangeF (g : Opd) (ps : List Dst) (a b : RC)
 | bad
def zAw (ops : List Oper) : List (List Nat) :=
 ops.foldl (fun acc o => acc ++ [(o.after.toList.filter (Region.binds .any)).flatMap fun e => e.on :: acc.getD e.on []]) []
def masks (ops : List Oper) : List Nat :=
 ops.foldl (fun acc o => acc ++ [o.after.toList.foldl (fun m e => if Region.binds .any e then m ||| ((1 <<< e.on) ||| acc.getD e.on 0) else m) 0]) []
def zCm (ops : Array Oper) (o : Oper) : List Nat := o.dst.toList ++ o.looksAt ops
def clash (ops : Array Oper) (x y : Oper) : Bool :=
 (match x.dst with | some d => (zCm ops y).contains d | none => false) || (match y.dst with | some d => (zCm ops x).contains d | none => false)
def drawOk (ops : Array Oper) (m : Nat) : Bool :=
 let bs := masks ops.toList
 (List.range ops.size).all fun j =>
  match ops[j]? with
  | some oj =>
    let b := bs.getD j 0
    oj.after.all (fun e => !Region.binds .any e || decide (e.on < j)) &&
    (b == 2 ^ j - 1 || (List.range j).all fun i =>
     match ops[i]? with
     | some oi => b.testBit i || (decide (j < m) && !clash ops oi oj)
     | none => false)
  | none => false
def zBv (ops : Array Oper) : Nat :=
 let bs := masks ops.toList
 (List.range ops.size).foldl (fun m j => if bs.getD j 0 == 2 ^ j - 1 then m else j + 1) 0
def unord (bs : List Nat) (i j : Nat) : Bool := i != j && !((bs.getD j 0).testBit i) && !((bs.getD i 0).testBit j)
def zFo (bs : List Nat) (ros : List RO) (m j : Nat) : Bool :=
 match ros[j]? with
 | some o => if isEff o.oc then (List.range m).any (fun i => unord bs i j && (match ros[i]? with | some p => !zD6 p.oc | none => true)) else true
 | none => true
def flags (ops : Array Oper) (ros : List RO) (m : Nat) : List (RO × Bool) :=
 let bs := masks ops.toList
 (ros.zip ((List.range m).map (zFo bs ros m))).take m
def zB2 (C : Cfg) : List Nat → Option (List Dst)
 | [] => some []
 | t :: ts => match zBq C (some t), zB2 C ts with
   | some d, some ds => some (d :: ds)
   | _, _ => none
def zAe (C : Cfg) : Code → Option RC
 | .skip => some .skip
 | .label _ => some .skip
 | .region _ ops false => some (((zA7 C ops (List.range ops.size)).map .reg).getD .bad)
 | .region _ ops true =>
   if drawOk ops (zBv ops) && C.P.follows .mixedOrders then some (((zA7 C ops (List.range ops.size)).map fun r => .regD (flags ops r (zBv ops)) (r.drop (zBv ops))).getD .bad) else some .bad
 | .seq a b =>
   match zAe C a, zAe C b with
   | some x, some y => some (.seq x y)
   | _, _ => none
 | .cond c a b =>
   match resO C c, zAe C a, zAe C b with
   | some g, some x, some y => some (.cond g x y)
   | _, _, _ => some .bad
 | .block id b => (zAe C b).map (.block id)
 | .loop b => (zAe C b).map .loop
 | .scope b => (zAe C b).map .scope
 | .exit id => some (.exit id)
 | .ret => some .ret
 | .rangeFunc g ps a b =>
   match resO C g, zB2 C ps.toList, zAe C a, zAe C b with
   | some g, some ps, some x, some y => some (.rangeF g ps x y)
   | _, _, _, _ => some .bad
 | _ => some .bad
theorem zAp {C : Cfg} {id : Nat} {ops : Array Oper} {d : Bool} {rc : RC} (h : zAe C (.region id ops d) = some rc) :
 (∃ r, rc = .reg r ∧ d = false ∧ zA7 C ops (List.range ops.size) = some r) ∨
 (∃ r, rc = .regD (flags ops r (zBv ops)) (r.drop (zBv ops)) ∧ d = true ∧ drawOk ops (zBv ops) = true ∧ C.P.follows .mixedOrders = true ∧ zA7 C ops (List.range ops.size) = some r) ∨ rc = .bad := by
 cases d <;> simp only [zAe] at h
 ·cases hr : zA7 C ops (List.range ops.size) with
  | none => simp [hr] at h; exact .inr (.inr h.symm)
  | some r => simp [hr] at h; exact .inl ⟨r, h.symm, rfl, rfl⟩
 ·split at h
  ·rename_i hB
   simp only [Bool.and_eq_true] at hB
   cases hr : zA7 C ops (List.range ops.size) with
   | none => simp [hr] at h; exact .inr (.inr h.symm)
   | some r => simp [hr] at h; exact .inr (.inl ⟨r, h.symm, rfl, hB.1, hB.2, rfl⟩)
  ·simp at h; exact .inr (.inr h.symm)
inductive Ex where
 | normal
 | exit (id : Nat)
 | ret
def Lift (C : Cfg) (w0 : World) (B : Gh) (Q : Ex → St → Prop) : Exit → Act → World → Prop
 | .normal, a, w => ∃ s, Sim C w0 B s a w ∧ Q .normal s
 | .exit i, a, w => ∃ s, Sim C w0 B s a w ∧ Q (.exit i) s
 | .ret, a, w => ∃ s, Sim C w0 B s a w ∧ Q .ret s
 | .panic ch, a, w => a.defers = C.dfs ∧ PanPost C.M w0 B (.panicked ch) w
 | _, _, _ => False
theorem lift_pq {C : Cfg} {w0 : World} {B : Gh} {Q : Ex → St → Prop} : PQ C w0 B (Lift C w0 B Q) := fun _ _ _ h1 h2 => ⟨h1, h2⟩
def wpE (P : Program) (c : Code) (Q : Exit → Act → World → Prop) (a : Act) (w : World) : Prop := ∀ ro, c.wpIn (FR ro) 0 P Q a w
theorem zEr {P : Program} {c : Code} {Q Q' : Exit → Act → World → Prop} {a : Act} {w : World} (h : wpE P c Q a w) (hq : ∀ e a w, Q e a w → Q' e a w) : wpE P c Q' a w := fun ro => wpIn_mono (h ro) hq
theorem wpE_seq {P : Program} {x y : Code} {Q : Exit → Act → World → Prop} {a : Act} {w : World} (h : wpE P x (Exit.then (wpE P y Q) Q) a w) : wpE P (.seq x y) Q a w :=
 fun ro => wpIn_seq (wpIn_mono (h ro) fun e a w hq => by cases e <;> simp only [Exit.then] at hq ⊢ <;> first | exact hq | exact hq ro)
theorem wpE_block {P : Program} {id : Nat} {c : Code} {Q : Exit → Act → World → Prop} {a : Act} {w : World} (h : wpE P c (Exit.inBlock id Q) a w) : wpE P (.block id c) Q a w := fun ro => wpIn_block (h ro)
theorem wpE_loop {P : Program} {c : Code} {Q : Exit → Act → World → Prop} {a : Act} {w : World} (I : Act → World → Prop) (μ : Act → World → Nat) (h₀ : I a w)
 (round : ∀ a w, I a w → wpE P c (Exit.then (fun a' w' => I a' w' ∧ μ a' w' < μ a w) Q) a w) : wpE P (.loop c) Q a w := fun ro => wpIn_loop I μ h₀ fun a w hI => round a w hI ro
structure SWp (C : Cfg) (rc : RC) (Q : Ex → St → Prop) (s : St) : Prop where
 run : ∀ c, zAe C c = some rc → ∀ w0 B, C.M.start w0 B → ∀ a w, Sim C w0 B s a w → wpE C.P c (Lift C w0 B Q) a w
def Weak (C : Cfg) (s s1 : St) : Prop := ∀ w0 B a w, Sim C w0 B s a w → Sim C w0 B s1 a w
section
variable {C : Cfg} {Q : Ex → St → Prop} {s : St}
theorem zAf : Weak C s s := fun _ _ _ _ h => h
theorem zDd {s1 s2 : St} (h : Weak C s s1) (g : Weak C s1 s2) : Weak C s s2 := fun _ _ _ _ q => g _ _ _ _ (h _ _ _ _ q)
theorem zEa : Weak C s s.done := by
 intro w0 B a w h
 obtain ⟨G, g0, gb, g1, g2, g3, g4⟩ := h
 refine ⟨G, g0, gb, g1, g2, g3, fun t => ?_⟩
 have := g4 t
 unfold St.slot St.done at *
 split
 ·rename_i i hi; rw [hi] at this; exact this
 ·simp [lk, Rel]
def keepE (ks : List Nat) : Nat → List D → List D
 | _, [] => []
 | i, d :: ds => (if ks.contains i then d else .u0) :: keepE ks (i + 1) ds
theorem keepE_length (ks : List Nat) : ∀ (i : Nat) (l : List D), (keepE ks i l).length = l.length
 | _, [] => rfl
 | i, d :: ds => by simp [keepE, keepE_length ks (i + 1) ds]
theorem keepE_get (ks : List Nat) : ∀ (i j : Nat) (l : List D), (keepE ks i l).getD j .u0 = l.getD j .u0 ∨ (keepE ks i l).getD j .u0 = .u0
 | _, _, [] => by simp [keepE]
 | i, 0, d :: ds => by
   simp only [keepE, List.getD_cons_zero]
   split
   ·exact .inl rfl
   ·exact .inr rfl
 | i, j + 1, d :: ds => by simpa [keepE] using keepE_get ks (i + 1) j ds
theorem zD9 (ks : List Nat) : Weak C s { s with env := keepE ks 0 s.env } := by
 intro w0 B a w h
 obtain ⟨G, g0, gb, g1, g2, g3, g4⟩ := h
 refine ⟨G, g0, gb, g1, g2, by simpa [keepE_length] using g3, fun t => ?_⟩
 have := g4 t
 unfold St.slot at *
 split
 ·rename_i i hi
  rw [hi] at this
  rcases keepE_get ks 0 i s.env with e | e
  ·simp only [e]; exact this
  ·simp only [e]; simp [Rel]
 ·rename_i hi; rw [hi] at this; exact this
theorem zDt {rc : RC} {s1 : St} (h : Weak C s s1) (g : SWp C rc Q s1) : SWp C rc Q s :=
 ⟨fun c hc w0 B hA a w hs => g.run c hc w0 B hA a w (h _ _ _ _ hs)⟩
theorem lift_mono {w0 B} {Q' : Ex → St → Prop} (h : ∀ e s, Q e s → ∃ s1, Weak C s s1 ∧ Q' e s1) (e : Exit) (a : Act) (w : World) (hl : Lift C w0 B Q e a w) : Lift C w0 B Q' e a w := by
 cases e <;> simp only [Lift] at hl ⊢ <;> try first | exact hl | (obtain ⟨s, h1, h2⟩ := hl; obtain ⟨s1, h3, h4⟩ := h _ _ h2; exact ⟨s1, h3 _ _ _ _ h1, h4⟩)
theorem zCq {rc : RC} {Q' : Ex → St → Prop} (h : SWp C rc Q s) (hq : ∀ e s, Q e s → ∃ s1, Weak C s s1 ∧ Q' e s1) : SWp C rc Q' s :=
 ⟨fun c hc w0 B hA a w hs => zEr (h.run c hc w0 B hA a w hs) (lift_mono hq)⟩
theorem swp_skip (h : Q .normal s) : SWp C .skip Q s := by
 refine ⟨fun c hc w0 B hA a w hs => ?_⟩
 have hreg : ∀ id ops d, c = .region id ops d → _ := fun id ops d e => zAp (e ▸ hc)
 cases c <;> (try simp only [zAe] at hc) <;> (try (cases hc; done))
 case skip => exact fun _ => wpIn_skip ⟨s, hs, h⟩
 case label => exact fun _ => wpIn_label ⟨s, hs, h⟩
 case region _ ops d => exfalso; have := hreg _ _ _ rfl; simp at this
 all_goals (repeat' split at hc) <;> simp_all
theorem swp_reg {ros : List RO} (h : opsWp C.M ros (fun s' => Q .normal s'.done) s) : SWp C (.reg ros) Q s := by
 refine ⟨fun c hc w0 B hA a w hs => ?_⟩
 have hreg : ∀ id ops d, c = .region id ops d → _ := fun id ops d e => zAp (e ▸ hc)
 cases c <;> (try simp only [zAe] at hc) <;> (try (cases hc; done))
 case region _ ops d =>
  rcases hreg _ _ _ rfl with ⟨r, h1, rfl, hr⟩ | ⟨r, h1, _⟩ | h1
  ·cases h1
   refine fun ro => wpIn_region (zFv ⟨hA, lift_pq⟩ (K := fun s' => Q .normal s'.done) (fun s a w hk hs => ?_) _ _ s a w hr h hs)
   exact ⟨s.done, zEa _ _ _ _ hs, hk⟩
  iterate 2
   ·cases h1
 all_goals exfalso; (repeat' split at hc) <;> simp_all
theorem swp_seq {x y : RC} (h : SWp C x (fun e s' => match e with | .normal => SWp C y Q s' | e => Q e s') s) : SWp C (.seq x y) Q s := by
 refine ⟨fun c hc w0 B hA a w hs => ?_⟩
 have hreg : ∀ id ops d, c = .region id ops d → _ := fun id ops d e => zAp (e ▸ hc)
 cases c <;> (try simp only [zAe] at hc) <;> (try (cases hc; done))
 case seq ca cb =>
  cases ha : zAe C ca with
  | none => simp [ha] at hc
  | some p =>
    cases hb : zAe C cb with
    | none => simp [ha, hb] at hc
    | some q =>
      simp [ha, hb] at hc
      obtain ⟨rfl, rfl⟩ := hc
      refine wpE_seq (zEr (h.run ca ha w0 B hA a w hs) fun e a' w' hl => ?_)
      cases e <;> simp only [Lift, Exit.then] at hl ⊢ <;> try exact hl
      obtain ⟨s', h1, h2⟩ := hl
      exact h2.run cb hb w0 B hA a' w' h1
 case region _ ops d => exfalso; have := hreg _ _ _ rfl; simp at this
 all_goals exfalso; (repeat' split at hc) <;> simp_all
theorem swp_cond {g : Opd} {x y : RC} {t : Bool} (hg : s.get g = .bool t) (h1 : t = true → SWp C x Q (s.setO g (.bool true))) (h2 : t = false → SWp C y Q (s.setO g (.bool false))) : SWp C (.cond g x y) Q s := by
 refine ⟨fun c hc w0 B hA a w hs => ?_⟩
 have hreg : ∀ id ops d, c = .region id ops d → _ := fun id ops d e => zAp (e ▸ hc)
 cases c <;> (try simp only [zAe] at hc) <;> (try (cases hc; done))
 case cond co ca cb =>
  cases ho : resO C co with
  | none => simp [ho] at hc
  | some g' =>
    cases ha : zAe C ca with
    | none => simp [ho, ha] at hc
    | some p =>
      cases hb : zAe C cb with
      | none => simp [ho, ha, hb] at hc
      | some q =>
        simp [ho, ha, hb] at hc
        obtain ⟨rfl, rfl, rfl⟩ := hc
        have hs0 := hs
        obtain ⟨G, g0, gb, g1, g2, g3, g4⟩ := hs
        have hv := zEy g4 ho
        rw [hg] at hv; simp only [Rel] at hv
        have nar : Sim C w0 B (s.setO g' (.bool t)) a w := by
         cases co with
         | tmp u =>
           refine ⟨G, by rw [zDc]; exact g0, gb, g1, g2, by rw [zB0]; exact g3, fun u' => ?_⟩
           rw [zEe (zC3 ho).1 g3]
           split
           ·rename_i e; subst e
            simp only [Act.eval] at hv
            simp only [Rel]; exact hv
           ·exact g4 u'
         | const v =>
           simp only [resO] at ho
           cases hd : toD v with
           | none => simp [hd] at ho
           | some d => simp [hd] at ho; subst ho; simpa [St.setO] using hs0
         | global n => simp [resO] at ho
         | func f => simp [resO] at ho; subst ho; simpa [St.setO] using hs0
        refine fun ro => wpIn_cond_split hv (fun e => ?_) (fun e => ?_)
        ·subst e; exact (h1 rfl).run ca ha w0 B hA a w nar ro
        ·subst e; exact (h2 rfl).run cb hb w0 B hA a w nar ro
 case region _ ops d => exfalso; have := hreg _ _ _ rfl; simp at this
 all_goals exfalso; (repeat' split at hc) <;> simp_all
theorem swp_block {id : Nat} {x : RC} (h : SWp C x (fun e s' => match e with | .exit i => if i = id then Q .normal s' else Q (.exit i) s' | e => Q e s') s) : SWp C (.block id x) Q s := by
 refine ⟨fun c hc w0 B hA a w hs => ?_⟩
 have hreg : ∀ id ops d, c = .region id ops d → _ := fun id ops d e => zAp (e ▸ hc)
 cases c <;> (try simp only [zAe] at hc) <;> (try (cases hc; done))
 case block i cb =>
  cases hb : zAe C cb with
  | none => simp [hb] at hc
  | some q =>
    simp [hb] at hc
    obtain ⟨rfl, rfl⟩ := hc
    refine wpE_block (zEr (h.run cb hb w0 B hA a w hs) fun e a' w' hl => ?_)
    cases e <;> simp only [Lift, Exit.inBlock] at hl ⊢ <;> try exact hl
    obtain ⟨s', h1, h2⟩ := hl
    split at h2
    ·rename_i e; rw [if_pos e]; exact ⟨s', h1, h2⟩
    ·rename_i e; rw [if_neg e]; exact ⟨s', h1, h2⟩
 case region _ ops d => exfalso; have := hreg _ _ _ rfl; simp at this
 all_goals exfalso; (repeat' split at hc) <;> simp_all
theorem swp_scope {x : RC} (h : SWp C x Q s) : SWp C (.scope x) Q s := by
 refine ⟨fun c hc w0 B hA a w hs => ?_⟩
 have hreg : ∀ id ops d, c = .region id ops d → _ := fun id ops d e => zAp (e ▸ hc)
 cases c <;> (try simp only [zAe] at hc) <;> (try (cases hc; done))
 case scope cb =>
  cases hb : zAe C cb with
  | none => simp [hb] at hc
  | some q =>
    simp [hb] at hc
    subst hc
    exact fun ro => wpIn_scope (h.run cb hb w0 B hA a w hs ro) fun l a w hl => by simp [Lift] at hl
 case region _ ops d => exfalso; have := hreg _ _ _ rfl; simp at this
 all_goals exfalso; (repeat' split at hc) <;> simp_all
theorem swp_exit {id : Nat} (h : Q (.exit id) s) : SWp C (.exit id) Q s := by
 refine ⟨fun c hc w0 B hA a w hs => ?_⟩
 have hreg : ∀ id ops d, c = .region id ops d → _ := fun id ops d e => zAp (e ▸ hc)
 cases c <;> (try simp only [zAe] at hc) <;> (try (cases hc; done))
 case exit i => simp at hc; subst hc; exact fun _ => wpIn_exit ⟨s, hs, h⟩
 case region _ ops d => exfalso; have := hreg _ _ _ rfl; simp at this
 all_goals exfalso; (repeat' split at hc) <;> simp_all
theorem swp_ret (h : Q .ret s) : SWp C .ret Q s := by
 refine ⟨fun c hc w0 B hA a w hs => ?_⟩
 have hreg : ∀ id ops d, c = .region id ops d → _ := fun id ops d e => zAp (e ▸ hc)
 cases c <;> (try simp only [zAe] at hc) <;> (try (cases hc; done))
 case ret => exact fun _ => wpIn_ret ⟨s, hs, h⟩
 case region _ ops d => exfalso; have := hreg _ _ _ rfl; simp at this
 all_goals exfalso; (repeat' split at hc) <;> simp_all
theorem least (p : Nat → Prop) : ∀ n, p n → ∃ m, p m ∧ ∀ k, p k → m ≤ k := by
 intro n
 induction n using Nat.strongRecOn with
 | _ n ih =>
   intro hn
   by_cases h : ∃ k, k < n ∧ p k
   ·obtain ⟨k, hk, hp⟩ := h; exact ih k hk hp
   ·exact ⟨n, hn, fun k hk => Nat.le_of_not_lt fun hlt => h ⟨k, hlt, hk⟩⟩
theorem swp_loop {x : RC} (J : Nat → St → Prop) (n : Nat) (h0 : ∃ s1, Weak C s s1 ∧ J n s1)
 (round : ∀ n s, J n s → SWp C x (fun e s' => match e with | .normal => ∃ s1 m, Weak C s' s1 ∧ m < n ∧ J m s1 | e => Q e s') s) : SWp C (.loop x) Q s := by
 refine ⟨fun c hc w0 B hA a w hs => ?_⟩
 classical
 have hreg : ∀ id ops d, c = .region id ops d → _ := fun id ops d e => zAp (e ▸ hc)
 cases c <;> (try simp only [zAe] at hc) <;> (try (cases hc; done))
 case loop cb =>
  cases hb : zAe C cb with
  | none => simp [hb] at hc
  | some q =>
    simp [hb] at hc; subst hc
    have hin : ∃ m, (fun n => ∃ s, J n s ∧ Sim C w0 B s a w) m := by
     obtain ⟨s1, g1, g2⟩ := h0
     exact ⟨n, s1, g2, g1 _ _ _ _ hs⟩
    have lst : ∀ (a : Act) (w : World), (∃ m, (fun n => ∃ s, J n s ∧ Sim C w0 B s a w) m) → ∃ m, (∃ s, J m s ∧ Sim C w0 B s a w) ∧ ∀ k, (∃ s, J k s ∧ Sim C w0 B s a w) → m ≤ k :=
     fun a w hm => let ⟨m, hp⟩ := hm; least _ m hp
    refine wpE_loop (fun a w => ∃ m, (fun n => ∃ s, J n s ∧ Sim C w0 B s a w) m)
     (fun a w => if h : ∃ m, (fun n => ∃ s, J n s ∧ Sim C w0 B s a w) m then Classical.choose (lst a w h) else 0) hin ?_
    intro a w hI
    obtain ⟨⟨s1, g1, g2⟩, g3⟩ := Classical.choose_spec (lst a w hI)
    rw [dif_pos hI]
    refine zEr ((round _ s1 g1).run cb hb w0 B hA a w g2) fun e a' w' hl => ?_
    cases e <;> simp only [Lift, Exit.then] at hl ⊢ <;> try exact hl
    obtain ⟨s', h1, s2, m, h2, h3, h4⟩ := hl
    have hex : ∃ m, (fun n => ∃ s, J n s ∧ Sim C w0 B s a' w') m := ⟨m, s2, h4, h2 _ _ _ _ h1⟩
    refine ⟨hex, ?_⟩
    rw [dif_pos hex]
    exact Nat.lt_of_le_of_lt ((Classical.choose_spec (lst a' w' hex)).2 m ⟨s2, h4, h2 _ _ _ _ h1⟩) h3
 case region _ ops d => exfalso; have := hreg _ _ _ rfl; simp at this
 all_goals exfalso; (repeat' split at hc) <;> simp_all
end
end GoV
end
section
set_option linter.unusedSimpArgs false
set_option maxHeartbeats 1000000
namespace GoV
open Go
def CallQ (M : Mod) (ds : List D) (hp : Hp) (K : D → Prop) : Prop := ∃ d, CallOp M ds hp (fun d' hp' => d' = d ∧ hp' = hp) ∧ K d
def zAh (M : Mod) (oc : OC) (ds : List D) (hp : Hp) (K : D → Prop) : Prop :=
 if zAa oc = true then CallQ M (zDp M oc ds) hp K else opWp oc ds hp fun d hp' => hp' = hp ∧ K d
def multi : OC → Bool
 | .eqN _ => true
 | .pan => true
 | _ => false
def qOp : OC → OC
 | .eqN _ => .bad
 | .pan => .bad
 | oc => oc
theorem multi_eqN {neg : Bool} (h : multi (.eqN neg) = false) : False := Bool.noConfusion h
theorem multi_pan {oc : OC} (h : multi oc = false) : isPan oc = false := by cases oc <;> first | rfl | (simp [multi] at h; done) | (rename_i k; cases k <;> first | rfl | (simp [multi] at h; done))
theorem qOp_ne (oc : OC) : multi (qOp oc) = false := by cases oc <;> first | rfl | (rename_i k; cases k <;> rfl)
theorem qOp_eq {oc : OC} (h : multi oc = false) : qOp oc = oc := by cases oc <;> first | rfl | (simp [multi] at h; done) | (rename_i k; cases k <;> first | rfl | (simp [multi] at h; done))
theorem qOp_bad {oc : OC} (h : multi oc = true) : qOp oc = .bad := by cases oc <;> first | rfl | (simp [multi] at h; done) | (rename_i k; cases k <;> first | rfl | (simp [multi] at h; done))
def detWp (M : Mod) (oc : OC) (ds : List D) (hp : Hp) (K : D → Hp → Prop) : Prop := ∃ d hp', OcWp M oc ds hp (fun d' hp'' => d' = d ∧ hp'' = hp') ∧ K d hp'
def stepWp (M : Mod) (q : Bool) (oc : OC) (ds : List D) (hp : Hp) (K : D → Hp → Prop) : Prop :=
 if q = true then zAh M (qOp oc) ds hp fun d => K d hp else detWp M (qOp oc) ds hp K
def headQ (M : Mod) (q : Bool) (o : RO) (K : St → Prop) (s : St) : Prop :=
 match o.guard with
 | none => stepWp M q o.oc (o.args.map s.get) s.hp fun d hp => K ({ s with hp := hp }.put o.dst d)
 | some (g, want) =>
   match s.get g with
   | .bool b => (b = want → stepWp M q o.oc (o.args.map (s.setO g (.bool want)).get) s.hp fun d hp => K ({ s.setO g (.bool want) with hp := hp }.put o.dst d)) ∧
    (b = (!want) → K ((s.setO g (.bool (!want))).put o.dst .skip))
   | .skip => K (s.put o.dst .skip)
   | _ => False
def opsQ (M : Mod) : List (RO × Bool) → (St → Prop) → St → Prop
 | [], K, s => K s
 | (o, q) :: r, K, s => headQ M q o (opsQ M r K) s
theorem binWp_det {op : BinOp} {x y : D} {K : D → Prop} (h : binWp op x y K) : ∃ d, K d ∧ ∀ K' : D → Prop, K' d → binWp op x y K' := by
 unfold binWp at h
 split at h <;> first
  | exact h.elim
  | exact ⟨_, h, fun K' k => by simpa [binWp] using k⟩
  | (obtain ⟨h1, h⟩ := h; exact ⟨_, h, fun K' k => by simp only [binWp]; exact ⟨h1, k⟩⟩)
  | (obtain ⟨h1, h2, h⟩ := h; exact ⟨_, h, fun K' k => by simp only [binWp]; exact ⟨h1, h2, k⟩⟩)
theorem unWp_det {op : UnOp} {x : D} {K : D → Prop} (h : unWp op x K) : ∃ d, K d ∧ ∀ K' : D → Prop, K' d → unWp op x K' := by
 unfold unWp at h
 split at h <;> first
  | exact h.elim
  | exact ⟨_, h, fun K' k => by simpa [unWp] using k⟩
theorem appWp_det {k bytes : Nat} {e : TypeId} {x : D} {es : List D} {hp : Hp} {K : D → Hp → Prop} (h : appWp k bytes e x es hp K) : ∃ d hp', K d hp' ∧ ∀ K' : D → Hp → Prop, K' d hp' → appWp k bytes e x es hp K' := by
 unfold appWp at h
 obtain ⟨hK, h⟩ := h
 split at h
 ·obtain ⟨h1, (⟨h2, h | h⟩ | h)⟩ := h
  ·exact ⟨_, _, h, fun K' k => ⟨hK, h1, .inl ⟨h2, .inl k⟩⟩⟩
  ·exact ⟨_, _, h, fun K' k => ⟨hK, h1, .inl ⟨h2, .inr k⟩⟩⟩
  ·exact ⟨_, _, h, fun K' k => ⟨hK, h1, .inr k⟩⟩
 ·obtain ⟨h1, ⟨h2, h3, h4, h | h⟩ | ⟨h2, h3, t, h4, h⟩⟩ := h
  ·exact ⟨_, _, h, fun K' k => ⟨hK, h1, .inl ⟨h2, h3, h4, .inl k⟩⟩⟩
  ·exact ⟨_, _, h, fun K' k => ⟨hK, h1, .inl ⟨h2, h3, h4, .inr k⟩⟩⟩
  ·exact ⟨_, _, h, fun K' k => ⟨hK, h1, .inr ⟨h2, h3, t, h4, k⟩⟩⟩
 ·obtain ⟨h1, h2, h3, h⟩ := h
  exact ⟨_, _, h, fun K' k => ⟨hK, h1, h2, h3, k⟩⟩
 ·obtain ⟨h1, ⟨cs, h2, h3, h⟩ | ⟨bs, s', h2, h3, h4, h5, h⟩⟩ := h
  ·exact ⟨_, _, h, fun K' k => ⟨hK, h1, .inl ⟨cs, h2, h3, k⟩⟩⟩
  ·exact ⟨_, _, h, fun K' k => ⟨hK, h1, .inr ⟨bs, s', h2, h3, h4, h5, k⟩⟩⟩
 ·exact h.elim
theorem mm_det {mx : Bool} {ds : List D} {K : D → Prop} (h : mmWp mx ds K) : ∃ d, K d ∧ ∀ K' : D → Prop, K' d → mmWp mx ds K' := by
 unfold mmWp at h ⊢
 split at h
 ·obtain ⟨m, h1, h⟩ := h
  exact ⟨_, h, fun K' k => ⟨m, h1, k⟩⟩
 ·exact ⟨_, h, fun K' k => k⟩
 ·exact h.elim
theorem opWp_det {oc : OC} {ds : List D} {hp : Hp} {K : D → Hp → Prop} (hn : multi oc = false) (h : opWp oc ds hp K) : ∃ d hp', K d hp' ∧ ∀ K' : D → Hp → Prop, K' d hp' → opWp oc ds hp K' := by
 unfold opWp at h
 split at h
 case h_3 =>
  rename_i t a b
  cases t
  ·exact ⟨_, _, h.2 rfl, fun K' k => by simp only [opWp]; exact ⟨fun e => Bool.noConfusion e, fun _ => k⟩⟩
  ·exact ⟨_, _, h.1 rfl, fun K' k => by simp only [opWp]; exact ⟨fun _ => k, fun e => Bool.noConfusion e⟩⟩
 all_goals first
  | exact h.elim
  | exact (multi_eqN hn).elim
  | exact ⟨_, _, h, fun K' k => by simpa [opWp] using k⟩
  | (obtain ⟨d, h1, h2⟩ := mm_det h; exact ⟨d, hp, h1, fun K' k => by simp only [opWp]; exact h2 _ k⟩)
  | (obtain ⟨m, since, seen, es, clock, n, k1, v, h1, h2, h3, h4, h⟩ := h; exact ⟨_, _, h, fun K' k => by simp only [opWp]; exact ⟨m, since, seen, es, clock, n, k1, v, h1, h2, h3, h4, k⟩⟩)
  | (obtain ⟨d, h1, h2⟩ := binWp_det h; exact ⟨d, hp, h1, fun K' k => by simp only [opWp]; exact h2 _ k⟩)
  | (obtain ⟨d, h1, h2⟩ := unWp_det h; exact ⟨d, hp, h1, fun K' k => by simp only [opWp]; exact h2 _ k⟩)
  | (obtain ⟨es, h0, h⟩ := h; obtain ⟨d, hp', h1, h2⟩ := appWp_det h; exact ⟨d, hp', h1, fun K' k => by simp only [opWp]; exact ⟨es, h0, h2 _ k⟩⟩)
  | (obtain ⟨h1, h⟩ := h; exact ⟨_, _, h, fun K' k => by simp only [opWp]; exact ⟨h1, k⟩⟩)
  | (obtain ⟨h1, h2, h⟩ := h; exact ⟨_, _, h, fun K' k => by simp only [opWp]; exact ⟨h1, h2, k⟩⟩)
  | (obtain ⟨h1, h2, h3, h⟩ := h; exact ⟨_, _, h, fun K' k => by simp only [opWp]; exact ⟨h1, h2, h3, k⟩⟩)
  | (obtain ⟨h1, h2, h3, h4, h⟩ := h; exact ⟨_, _, h, fun K' k => by simp only [opWp]; exact ⟨h1, h2, h3, h4, k⟩⟩)
  | (obtain ⟨x, h1, h⟩ := h; exact ⟨_, _, h, fun K' k => by simp only [opWp]; exact ⟨x, h1, k⟩⟩)
  | (obtain ⟨x, h1, h2, h⟩ := h; exact ⟨_, _, h, fun K' k => by simp only [opWp]; exact ⟨x, h1, h2, k⟩⟩)
  | (obtain ⟨x, h1, h2, h3, h4, h⟩ := h; exact ⟨_, _, h, fun K' k => by simp only [opWp]; exact ⟨x, h1, h2, h3, h4, k⟩⟩)
  | (obtain ⟨h1, x, h2, h⟩ := h; exact ⟨_, _, h, fun K' k => by simp only [opWp]; exact ⟨h1, x, h2, k⟩⟩)
  | (obtain ⟨k1, cs, h1, h2, h3, h⟩ := h; exact ⟨_, _, h, fun K' k => by simp only [opWp]; exact ⟨k1, cs, h1, h2, h3, k⟩⟩)
  | (obtain ⟨k1, cs, h1, h2, h3, h4, h5, h⟩ := h; exact ⟨_, _, h, fun K' k => by simp only [opWp]; exact ⟨k1, cs, h1, h2, h3, h4, h5, k⟩⟩)
  | (obtain ⟨l, r, h1, h2, h3, h4, h⟩ := h; exact ⟨_, _, h, fun K' k => by simp only [opWp]; exact ⟨l, r, h1, h2, h3, h4, k⟩⟩)
  | (obtain ⟨h1, es, s, h2, h3, h⟩ := h; exact ⟨_, _, h, fun K' k => by simp only [opWp]; exact ⟨h1, es, s, h2, h3, k⟩⟩)
  | (obtain ⟨h1, h2, (⟨h3, h⟩ | h)⟩ := h
     ·exact ⟨_, _, h, fun K' k => by simp only [opWp]; exact ⟨h1, h2, .inl ⟨h3, k⟩⟩⟩
     ·exact ⟨_, _, h, fun K' k => by simp only [opWp]; exact ⟨h1, h2, .inr k⟩⟩)
  | (obtain ⟨h1, h2, h3, (h | ⟨h4, h5, (h | h)⟩)⟩ := h
     ·exact ⟨_, _, h, fun K' k => by simp only [opWp]; exact ⟨h1, h2, h3, .inl k⟩⟩
     ·exact ⟨_, _, h, fun K' k => by simp only [opWp]; exact ⟨h1, h2, h3, .inr ⟨h4, h5, .inl k⟩⟩⟩
     ·exact ⟨_, _, h, fun K' k => by simp only [opWp]; exact ⟨h1, h2, h3, .inr ⟨h4, h5, .inr k⟩⟩⟩)
  | (obtain ⟨s, p, h1, h2, h3⟩ := h
     by_cases hp' : p < s.length
     ·exact ⟨_, _, h2 hp', fun K' k => by simp only [opWp]; exact ⟨s, p, h1, fun _ => k, fun q => absurd hp' (by omega)⟩⟩
     ·exact ⟨_, _, h3 (by omega), fun K' k => by simp only [opWp]; exact ⟨s, p, h1, fun q => absurd q hp', fun _ => k⟩⟩)
  | (obtain ⟨l, r, m, h1, h2, h3, h4, h5, h⟩ := h
     split at h
     ·exact ⟨_, _, h.2, fun K' k => by simp only [opWp]; exact ⟨l, r, m, h1, h2, h3, h4, h5, h.1, k⟩⟩
     ·exact h.elim)
  | (obtain ⟨l, r, h1, h2, h3, h4, h⟩ := h
     split at h
     ·exact ⟨_, _, h.2, fun K' k => by simp only [opWp]; exact ⟨l, r, h1, h2, h3, h4, h.1, k⟩⟩
     ·exact ⟨_, _, h, fun K' k => by simp only [opWp]; exact ⟨l, r, h1, h2, h3, h4, k⟩⟩
     ·exact ⟨_, _, h.2.2, fun K' k => by simp only [opWp]; exact ⟨l, r, h1, h2, h3, h4, h.1, h.2.1, k⟩⟩
     ·exact h.elim)
theorem quiet_det {M : Mod} {oc : OC} {ds : List D} {hp : Hp} {K : D → Prop} (hn : multi oc = false) (h : zAh M oc ds hp K) : ∃ d, OcWp M oc ds hp (fun d' hp' => d' = d ∧ hp' = hp) ∧ K d := by
 unfold zAh at h
 unfold OcWp
 cases hc : zAa oc <;> simp only [hc, multi_pan hn, if_true, if_false, Bool.false_eq_true] at h ⊢
 ·obtain ⟨d, hp', ⟨rfl, h1⟩, h2⟩ := opWp_det hn h
  exact ⟨d, h2 _ ⟨rfl, rfl⟩, h1⟩
 ·exact h
theorem step_det {M : Mod} {q : Bool} {oc : OC} {ds : List D} {hp : Hp} {K : D → Hp → Prop} (h : stepWp M q oc ds hp K) : ∃ d hp', OcWp M oc ds hp (fun d' hp'' => d' = d ∧ hp'' = hp') ∧ (q = true → hp' = hp) ∧ K d hp' := by
 unfold stepWp at h
 cases hn : multi oc
 rotate_left
 ·exfalso
  rw [qOp_bad hn] at h
  cases q <;> simp only [if_true, if_false, Bool.false_eq_true] at h
  ·obtain ⟨d, hp', h1, h2⟩ := h
   simp [OcWp, zAa, isPan, opWp] at h1
  ·obtain ⟨d, h1, h2⟩ := quiet_det (by rfl) h
   simp [OcWp, zAa, isPan, opWp] at h1
 rw [qOp_eq hn] at h
 cases q <;> simp only [if_true, if_false, Bool.false_eq_true] at h
 ·obtain ⟨d, hp', h1, h2⟩ := h
  exact ⟨d, hp', h1, fun e => Bool.noConfusion e, h2⟩
 ·obtain ⟨d, h1, h2⟩ := quiet_det hn h
  exact ⟨d, hp, h1, fun _ => rfl, h2⟩
theorem free_any {M : Mod} {oc : OC} {ds : List D} {hp hp1 hp2 : Hp} {d : D} (hf : zD6 oc = true) (h : OcWp M oc ds hp (fun d' hp' => d' = d ∧ hp' = hp1)) : OcWp M oc ds hp2 (fun d' hp' => d' = d ∧ hp' = hp2) := by
 have hc : zAa oc = false := by cases oc <;> first | rfl | simp [zD6] at hf
 have hpn : isPan oc = false := by cases oc <;> first | rfl | simp [zD6] at hf
 simp only [OcWp, hc, hpn, Bool.false_eq_true, if_false] at h ⊢
 have hb : ∀ {op x y}, binWp op x y (fun d' => d' = d ∧ hp = hp1) → binWp op x y (fun d' => d' = d ∧ hp2 = hp2) := by
  intro op x y h
  obtain ⟨d', ⟨rfl, _⟩, h2⟩ := binWp_det h
  exact h2 _ ⟨rfl, by trivial⟩
 have hu : ∀ {op x}, unWp op x (fun d' => d' = d ∧ hp = hp1) → unWp op x (fun d' => d' = d ∧ hp2 = hp2) := by
  intro op x h
  obtain ⟨d', ⟨rfl, _⟩, h2⟩ := unWp_det h
  exact h2 _ ⟨rfl, by trivial⟩
 unfold opWp at h
 split at h <;> first
  | exact h.elim
  | (simp [zD6] at hf; done)
  | skip
 all_goals simp only [opWp]
 all_goals first
  | (obtain ⟨d', ⟨rfl, _⟩, h2⟩ := binWp_det h; exact h2 _ ⟨rfl, by trivial⟩)
  | (obtain ⟨d', ⟨rfl, _⟩, h2⟩ := unWp_det h; exact h2 _ ⟨rfl, by trivial⟩)
  | (obtain ⟨d', ⟨rfl, _⟩, h2⟩ := mm_det h; exact h2 _ ⟨rfl, by trivial⟩)
  | (obtain ⟨rfl, _⟩ := h; exact ⟨rfl, by trivial⟩)
  | (obtain ⟨h1, rfl, _⟩ := h; exact ⟨h1, rfl, by trivial⟩)
  | (obtain ⟨h1, h2, rfl, _⟩ := h; exact ⟨h1, h2, rfl, by trivial⟩)
  | (obtain ⟨h1, h2, h3, rfl, _⟩ := h; exact ⟨h1, h2, h3, rfl, by trivial⟩)
  | (obtain ⟨h1, h2, h3, h4, rfl, _⟩ := h; exact ⟨h1, h2, h3, h4, rfl, by trivial⟩)
  | (obtain ⟨x, h1, rfl, _⟩ := h; exact ⟨x, h1, rfl, by trivial⟩)
  | (obtain ⟨h1, x, h2, rfl, _⟩ := h; exact ⟨h1, x, h2, rfl, by trivial⟩)
  | exact ⟨fun e => ⟨(h.1 e).1, by trivial⟩, fun e => ⟨(h.2 e).1, by trivial⟩⟩
  | (obtain ⟨l, r, m, h1, h2, h3, h4, h5, h⟩ := h
     refine ⟨l, r, m, h1, h2, h3, h4, h5, ?_⟩
     split at h
     ·exact ⟨h.1, h.2.1, by trivial⟩
     ·exact h.elim)
  | (obtain ⟨l, r, h1, h2, h3, h4, h⟩ := h
     refine ⟨l, r, h1, h2, h3, h4, ?_⟩
     split at h
     ·exact ⟨h.1, h.2.1, by trivial⟩
     ·exact ⟨h.1, by trivial⟩
     ·exact ⟨h.1, h.2.1, h.2.2.1, by trivial⟩
     ·exact h.elim)
  | (obtain ⟨l, r, h1, h2, h3, h4, h, _⟩ := h; exact ⟨l, r, h1, h2, h3, h4, h, by trivial⟩)
theorem det_op {M : Mod} {oc : OC} {ds : List D} {hp : Hp} {K : D → Hp → Prop} (hn : multi oc = false) (hc : zAa oc = false) : detWp M oc ds hp K = OcWp M oc ds hp K := by
 unfold detWp OcWp
 simp only [hc, multi_pan hn, Bool.false_eq_true, if_false]
 refine propext ⟨fun h => ?_, fun h => ?_⟩
 ·obtain ⟨d, hp', h1, h2⟩ := h
  obtain ⟨d1, hp1, ⟨rfl, rfl⟩, h3⟩ := opWp_det hn h1
  exact h3 _ h2
 ·obtain ⟨d, hp', h1, h2⟩ := opWp_det hn h
  exact ⟨d, hp', h2 _ ⟨rfl, rfl⟩, h1⟩
theorem resolve_sub {P : Program} {op : Op} {oc : OC} {xs : List Operand} (h : zAo P op = some (oc, xs)) : ∀ x ∈ xs, x ∈ op.operands := by
 cases op <;> simp only [zAo] at h <;> try (cases h; done)
 case call c =>
  simp only [zFn] at h
  cases hc : c.callee with
  | value f => simp [hc] at h; obtain ⟨rfl, rfl⟩ := h; intro x hx; simp [Op.operands, Call.operands, hc] at hx ⊢; exact hx
  | invoke r m => simp [hc] at h; obtain ⟨rfl, rfl⟩ := h; intro x hx; simp [Op.operands, Call.operands, hc] at hx ⊢; exact hx
  | builtin b =>
    have key : ∀ l : List Operand, c.args.toList = l → ∀ x ∈ l, x ∈ (Op.call c).operands := by
     rintro l rfl x hx; simpa [Op.operands, Call.operands, hc] using hx
    cases b <;> simp only [hc] at h <;> try (cases h; done)
    case len =>
     split at h
     case h_2 => cases h
     rename_i t y ht hy
     (repeat' split at h) <;> simp at h <;> obtain ⟨rfl, rfl⟩ := h <;> exact key _ hy
    case append =>
     split at h
     case h_2 => cases h
     rename_i t u y z ht hy
     simp only [Option.map_eq_some_iff, Prod.mk.injEq] at h
     obtain ⟨p, _, _, rfl⟩ := h
     exact key _ hy
    all_goals simp at h; obtain ⟨rfl, rfl⟩ := h; exact key _ rfl
 case binOp op t x y u =>
  have hx : xs = [x, y] := by
   unfold resBin at h
   (repeat' split at h) <;> simp_all
  subst hx; intro z hz; simpa [Op.operands] using hz
 case slice t x lo hi mx =>
  have hx : xs = x :: (lo.toList ++ hi.toList) ∨ ∃ l h m, lo = some l ∧ hi = some h ∧ mx = some m ∧ xs = [x, l, h, m] := by
   split at h
   ·simp only [Option.map_eq_some_iff, Prod.mk.injEq] at h; obtain ⟨_, _, _, rfl⟩ := h; exact .inl rfl
   ·cases h
  rcases hx with hx | ⟨l, h', m, rfl, rfl, rfl, hx⟩
  ·subst hx; intro z hz; simp [Op.operands] at hz ⊢
   rcases hz with h | h | h
   ·exact .inl h
   ·exact .inr (.inl h)
   ·exact .inr (.inr (.inl h))
  ·subst hx; intro z hz; simp [Op.operands] at hz ⊢
   exact hz
 case build t parts =>
  have hx : xs = parts.toList.map (·.2) := by
   (repeat' split at h) <;> simp_all [Option.map_eq_some_iff] <;> (obtain ⟨_, _, _, rfl⟩ := h; rfl)
  subst hx; intro z hz; simpa [Op.operands] using hz
 case buildSlice t len parts =>
  simp only [Option.map_eq_some_iff, Prod.mk.injEq] at h; obtain ⟨_, _, _, rfl⟩ := h
  intro z hz; simpa [Op.operands] using hz
 case convert s t x =>
  simp only [Option.map_eq_some_iff, Prod.mk.injEq] at h; obtain ⟨_, _, _, rfl⟩ := h
  intro z hz; simpa [Op.operands] using hz
 case makeFunc f first cap =>
  simp at h; obtain ⟨rfl, rfl⟩ := h; intro z hz; simpa [Op.operands] using hz
 all_goals (repeat' split at h) <;> simp_all [Op.operands, Option.map_eq_some_iff]
 all_goals (obtain ⟨_, _, _, h⟩ := h; subst h; simp)
def evO (σ : Nat → D) : Operand → D
 | .tmp t => σ t
 | .const v => (toD v).getD .u0
 | .func f => .fn (.func f) [] []
 | .global _ => .u0
def updO (σ : Nat → D) (dst : Option Nat) (d : D) : Nat → D :=
 match dst with
 | none => σ
 | some t => fun u => if t = u then d else σ u
def SimF (C : Cfg) (w0 : World) (B : Gh) (σ : Nat → D) (hp : Hp) (a : Act) (w : World) : Prop :=
 ∃ G, Inv w0 B hp w G ∧ (B.r.length = C.n0 ∧ B.tk.length = C.m0) ∧ a.tmps.size = C.nt ∧ a.defers = C.dfs ∧ ∀ t, Rel w G (σ t) (a.tmps.getD t Go.undef)
def StepQ (C : Cfg) (ops : Array Oper) (hp hp1 : Hp) (σ : Nat → D) (o : Oper) (d : D) : Prop :=
 ∃ oc xs, zAo C.P o.op = some (oc, xs) ∧ (∃ ys, resOs C xs = some ys) ∧ (∃ ds, zBq C o.dst = some ds) ∧
  ((o.guard = none ∧ OcWp C.M oc (xs.map (evO σ)) hp (fun d' hp' => d' = d ∧ hp' = hp1)) ∨
   ∃ j want t, o.guard = some (j, want) ∧ (ops[j]?).bind (·.dst) = some t ∧ t < C.nt ∧
    ((σ t = .bool want ∧ OcWp C.M oc (xs.map (evO σ)) hp (fun d' hp' => d' = d ∧ hp' = hp1)) ∨ (σ t = .bool (!want) ∧ d = .skip ∧ hp1 = hp) ∨ (σ t = .skip ∧ d = .skip ∧ hp1 = hp)))
section
variable {C : Cfg} {w0 : World} {B : Gh}
theorem get_evO {s : St} {x : Operand} {y : Opd} (h : resO C x = some y) : s.get y = evO (s.slot C.pers) x := by
 cases x with
 | tmp t => rw [zF0 h]; rfl
 | const v =>
   simp only [resO] at h
   cases hv : toD v with
   | none => simp [hv] at h
   | some d => simp [hv] at h; subst h; simp [St.get, evO, hv]
 | global g => simp [resO] at h
 | func f => simp [resO] at h; subst h; rfl
theorem map_evO {s : St} : ∀ {xs : List Operand} {ys : List Opd}, resOs C xs = some ys → ys.map s.get = xs.map (evO (s.slot C.pers))
 | [], ys, h => by simp [resOs] at h; subst h; rfl
 | x :: xs, ys, h => by
   simp only [resOs] at h
   cases h1 : resO C x with
   | none => simp [h1] at h
   | some y =>
     cases h2 : resOs C xs with
     | none => simp [h1, h2] at h
     | some zs => simp [h1, h2] at h; subst h; simp [get_evO h1, map_evO h2]
theorem zC4 {s : St} {dst : Option Nat} {ds : Dst} (h : zBq C dst = some ds) (hl : s.env.length = C.pers.length) (d : D) : (s.put ds d).slot C.pers = updO (s.slot C.pers) dst d := by
 cases dst with
 | none => simp [zBq] at h; subst h; rfl
 | some t =>
   simp only [zBq] at h
   split at h
   case isFalse => cases h
   have hg : (match idx t C.pers with | some i => (match ds with | .v i => Opd.v i | .l t => Opd.l t | .none => Opd.l t) = .v i | none => (match ds with | .v i => Opd.v i | .l t => Opd.l t | .none => Opd.l t) = .l t) := by
    split at h
    ·rename_i i hi; (try rw [hi]); simp at h; subst h; rfl
    ·rename_i hi; (try rw [hi]); simp at h; subst h; rfl
   funext u
   have := zEe (s := s) hg hl d u
   rw [show updO (s.slot C.pers) (some t) d u = if t = u then d else s.slot C.pers u from rfl, ← this]
   split at h
   ·rename_i i hi; simp at h; subst h; simp [St.slot, St.put, St.setO]
   ·rename_i hi; simp at h; subst h
    cases hj : idx u C.pers with
    | none => simp [St.slot, St.put, St.setO, hj, lk_setK, lk]
    | some j => simp [St.slot, St.put, St.setO, hj]
theorem zDg {s : St} {t : Nat} {g : Opd} (h : resO C (.tmp t) = some g) (hl : s.env.length = C.pers.length) {d : D} (hd : s.get g = d) : (s.setO g d).slot C.pers = s.slot C.pers := by
 funext u
 rw [zEe (zC3 h).1 hl]
 split
 ·rename_i e; subst e; rw [← hd, zF0 h]
 ·rfl
theorem headQ_step {ops : Array Oper} {o : Oper} {x : RO} {q : Bool} {K : St → Prop} {s : St} (h1 : zCy C ops o = some x) (hl : s.env.length = C.pers.length) (h : headQ C.M q x K s) :
 ∃ d s1, K s1 ∧ (q = true → s1.hp = s.hp) ∧ s1.env.length = C.pers.length ∧ StepQ C ops s.hp s1.hp (s.slot C.pers) o d ∧ s1.slot C.pers = updO (s.slot C.pers) o.dst d := by
 unfold zCy at h1
 cases hres : zAo C.P o.op with
 | none => simp [hres] at h1
 | some p =>
   obtain ⟨oc, ys⟩ := p
   cases ha : resOs C ys with
   | none => simp [hres, ha] at h1
   | some args =>
     cases hd : zBq C o.dst with
     | none => simp [hres, ha, hd] at h1
     | some dst =>
       cases hg : zBp C ops o.guard with
       | none => simp [hres, ha, hd, hg] at h1
       | some guard =>
         simp [hres, ha, hd, hg] at h1; subst h1
         have slot_hp : ∀ (s : St) (hp : Hp), St.slot { s with hp := hp } C.pers = s.slot C.pers := fun s hp => rfl
         cases hog : o.guard with
         | none =>
           simp [hog, zBp] at hg; subst hg
           simp only [headQ] at h
           obtain ⟨d, hp', h2, hq, h3⟩ := step_det h
           rw [map_evO ha] at h2
           refine ⟨d, _, h3, fun e => by rw [zC5]; exact hq e, by rw [zBb]; exact hl, ⟨oc, ys, hres, ⟨_, ha⟩, ⟨_, hd⟩, .inl ⟨hog, by rw [zC5]; exact h2⟩⟩, ?_⟩
           rw [zC4 hd (by exact hl), slot_hp]
         | some p =>
           obtain ⟨j, want⟩ := p
           simp only [hog, zBp] at hg
           cases hj : (ops[j]?).bind (·.dst) with
           | none => simp [hj] at hg
           | some t =>
             simp only [hj] at hg
             cases hgo : resO C (.tmp t) with
             | none => simp [hgo] at hg
             | some g =>
               simp [hgo] at hg; subst hg
               have htn := (zC3 hgo).2
               simp only [headQ] at h
               have hsl : s.slot C.pers t = s.get g := (zF0 hgo).symm
               cases hb : s.get g <;> simp only [hb] at h
               case bool b =>
                by_cases e : b = want
                ·subst e
                 obtain ⟨d, hp', h2, hq, h3⟩ := step_det (h.1 rfl)
                 rw [map_evO ha, zDg hgo hl hb] at h2
                 refine ⟨d, _, h3, fun e => by rw [zC5]; exact hq e, by rw [zBb]; simpa [zB0] using hl, ⟨oc, ys, hres, ⟨_, ha⟩, ⟨_, hd⟩, .inr ⟨j, b, t, hog, hj, htn, .inl ⟨by rw [hsl, hb], by rw [zC5]; exact h2⟩⟩⟩, ?_⟩
                 rw [zC4 hd (by simpa [zB0] using hl), slot_hp, zDg hgo hl hb]
                ·have e' : b = (!want) := by cases b <;> cases want <;> simp_all
                 subst e'
                 refine ⟨.skip, _, h.2 rfl, fun _ => by rw [zC5, zDc], by rw [zBb, zB0]; exact hl, ⟨oc, ys, hres, ⟨_, ha⟩, ⟨_, hd⟩, .inr ⟨j, want, t, hog, hj, htn, .inr (.inl ⟨by rw [hsl, hb], rfl, by rw [zC5, zDc]⟩)⟩⟩, ?_⟩
                 rw [zC4 hd (by rw [zB0]; exact hl), zDg hgo hl hb]
               case skip =>
                exact ⟨.skip, _, h, fun _ => zC5 _ _ _, by rw [zBb]; exact hl, ⟨oc, ys, hres, ⟨_, ha⟩, ⟨_, hd⟩, .inr ⟨j, want, t, hog, hj, htn, .inr (.inr ⟨by rw [hsl, hb], rfl, by rw [zC5]⟩)⟩⟩, zC4 hd hl _⟩
theorem opsQ_trace {ops : Array Oper} {K : St → Prop} : ∀ (len k : Nat) (ros : List RO) (qs : List (RO × Bool)) (s : St), zA7 C ops (List.range' k len) = some ros → qs.map (·.1) = ros → s.env.length = C.pers.length → opsQ C.M qs K s →
 ∃ (ds : Nat → D) (σ : Nat → Nat → D) (hps : Nat → Hp) (s1 : St), K s1 ∧ hps k = s.hp ∧ hps (k + len) = s1.hp ∧ s1.env.length = C.pers.length ∧ σ k = s.slot C.pers ∧ σ (k + len) = s1.slot C.pers ∧
  ∀ i, k ≤ i → i < k + len → ∃ o q, ops[i]? = some o ∧ (qs[i - k]?).map (·.2) = some q ∧ (q = true → hps (i + 1) = hps i) ∧ StepQ C ops (hps i) (hps (i + 1)) (σ i) o (ds i) ∧ σ (i + 1) = updO (σ i) o.dst (ds i)
 | 0, k, ros, qs, s, hr, hqs, hl, h => by
   simp [zA7] at hr; subst hr
   have : qs = [] := by simpa using hqs
   subst this
   exact ⟨fun _ => .u0, fun _ => s.slot C.pers, fun _ => s.hp, s, h, rfl, rfl, hl, rfl, rfl, fun i h1 h2 => by omega⟩
 | len + 1, k, ros, qs, s, hr, hqs, hl, h => by
   rw [List.range'_succ] at hr
   obtain ⟨o, x, xs, ho, h1, h2, rfl⟩ := zCc hr
   cases qs with
   | nil => simp at hqs
   | cons p qs =>
     obtain ⟨x', q⟩ := p
     simp only [List.map_cons, List.cons.injEq] at hqs
     obtain ⟨rfl, hqs⟩ := hqs
     obtain ⟨d, s1, k1, k2, k3, k4, k5⟩ := headQ_step h1 hl h
     obtain ⟨ds, σ, hps, s2, g1, g2, g2', g3, g4, g5, g6⟩ := opsQ_trace len (k + 1) xs qs s1 h2 hqs k3 k1
     refine ⟨fun i => if i = k then d else ds i, fun i => if i = k then s.slot C.pers else σ i, fun i => if i = k then s.hp else hps i, s2, g1, by simp, ?_, g3, by simp, ?_, fun i h1 h2 => ?_⟩
     ·have : k + (len + 1) ≠ k := by omega
      simp only [this, if_false]
      rw [← g2']; congr 1; omega
     ·have : k + (len + 1) ≠ k := by omega
      simp only [this, if_false]
      rw [← g5]; congr 1; omega
     ·by_cases e : i = k
      ·subst e
       refine ⟨o, q, ho, by simp, fun e => ?_, ?_, ?_⟩
       ·simp [g2, k2 e]
       ·simpa [g2] using k4
       ·simp [g4, k5]
      ·obtain ⟨o', q', q1, q0, q4, q2, q3⟩ := g6 i (by omega) (by omega)
       have e2 : i + 1 ≠ k := by omega
       have e3 : i - k = (i - (k + 1)) + 1 := by omega
       exact ⟨o', q', q1, by rw [e3]; simpa using q0, by simpa [e, e2] using q4, by simpa [e, e2] using q2, by simpa [e, e2] using q3⟩
theorem StepQ.congr {ops : Array Oper} {hp hp1 : Hp} {σ σ' : Nat → D} {o : Oper} {d : D} (h : StepQ C ops hp hp1 σ o d) (hs : ∀ t ∈ o.looksAt ops, σ t = σ' t) : StepQ C ops hp hp1 σ' o d := by
 obtain ⟨oc, xs, h1, h2, h3, h4⟩ := h
 have hm : xs.map (evO σ) = xs.map (evO σ') := by
  refine List.map_congr_left fun x hx => ?_
  have := resolve_sub h1 x hx
  cases x with
  | tmp t =>
    refine hs t ?_
    simp only [Oper.looksAt, List.mem_append, List.mem_filterMap]
    exact .inl ⟨.tmp t, by simpa using this, rfl⟩
  | _ => rfl
 refine ⟨oc, xs, h1, h2, h3, ?_⟩
 rw [← hm]
 rcases h4 with h4 | ⟨j, want, t, g1, g2, g3, g4⟩
 ·exact .inl h4
 ·refine .inr ⟨j, want, t, g1, g2, g3, ?_⟩
  rw [← hs t (by simp [Oper.looksAt, g1, g2])]
  exact g4
theorem StepQ.free {ops : Array Oper} {hp hp1 hp2 : Hp} {σ : Nat → D} {o : Oper} {d : D} {x : RO} (h : StepQ C ops hp hp1 σ o d) (hx : zCy C ops o = some x) (hf : zD6 x.oc = true) : StepQ C ops hp2 hp2 σ o d := by
 obtain ⟨oc, xs, h1, h2, h3, h4⟩ := h
 have e : x.oc = oc := by
  unfold zCy at hx
  simp only [h1] at hx
  (repeat' split at hx) <;> simp at hx
  subst hx; rfl
 rw [e] at hf
 refine ⟨oc, xs, h1, h2, h3, ?_⟩
 rcases h4 with ⟨g1, g2⟩ | ⟨j, want, t, g1, g2, g3, g4⟩
 ·exact .inl ⟨g1, free_any hf g2⟩
 ·refine .inr ⟨j, want, t, g1, g2, g3, ?_⟩
  rcases g4 with ⟨q1, q2⟩ | ⟨q1, q2, _⟩ | ⟨q1, q2, _⟩
  ·exact .inl ⟨q1, free_any hf q2⟩
  ·exact .inr (.inl ⟨q1, q2, rfl⟩)
  ·exact .inr (.inr ⟨q1, q2, rfl⟩)
theorem rel_evO {a : Act} {w : World} {G : Gh} {σ : Nat → D} (hs : ∀ t, Rel w G (σ t) (a.tmps.getD t Go.undef)) :
 ∀ {xs : List Operand} {ys : List Opd}, resOs C xs = some ys → RelL w G (xs.map (evO σ)) (xs.map a.eval)
 | [], ys, h => RelL.nil
 | x :: xs, ys, h => by
   simp only [resOs] at h
   cases h1 : resO C x with
   | none => simp [h1] at h
   | some y =>
     cases h2 : resOs C xs with
     | none => simp [h1, h2] at h
     | some zs =>
       refine RelL.cons ?_ (rel_evO hs h2)
       cases x with
       | tmp t => exact hs t
       | const v =>
         simp only [resO] at h1
         cases hv : toD v with
         | none => simp [hv] at h1
         | some d => simpa [evO, hv, Act.eval] using (toD_rel (w := w) (g := G) hv).1.any
       | global g => simp [resO] at h1
       | func f => simp only [evO, Rel, Act.eval]; exact ⟨[], [], rfl, RelL.nil, RelL.nil⟩
theorem zFr {a : Act} {w : World} {G : Gh} {σ : Nat → D} (hs : ∀ t, Rel w G (σ t) (a.tmps.getD t Go.undef)) (hn : a.tmps.size = C.nt)
 {dst : Option Nat} {ds : Dst} (hd : zBq C dst = some ds) {d : D} {v : Value} (hv : Rel w G d v) : ∀ t, Rel w G (updO σ dst d t) ((a.put dst v).tmps.getD t Go.undef) := by
 intro t
 cases dst with
 | none => exact hs t
 | some u =>
   simp only [zBq] at hd
   split at hd
   case isFalse => cases hd
   rename_i hu
   have hval : (a.put (some u) v).tmps.getD t Go.undef = if u = t then v else a.tmps.getD t Go.undef := by
    simp only [Act.put, Array.getD_eq_getD_getElem?, Array.getElem?_setIfInBounds]
    by_cases e : u = t
    ·subst e; simp [hn, hu]
    ·simp [e]
   rw [hval]
   simp only [updO]
   split
   ·exact hv
   ·exact hs t
theorem StepQ.sound {ro : Option Nat} {Q : Exit → Act → World → Prop} (hA : C.M.start w0 B ∧ PQ C w0 B Q) {ops : Array Oper} {hp hp1 : Hp} {σ : Nat → D} {o : Oper} {d : D} {next : Act → World → Prop} (h : StepQ C ops hp hp1 σ o d) {a : Act} {w : World} (hs : SimF C w0 B σ hp a w)
 (ih : ∀ a w, SimF C w0 B (updO σ o.dst d) hp1 a w → next a w) :
 if Region.wanted o (yielded ops a.tmps) then o.wpIn (FR ro) 0 C.P a w next Q else (∀ f, o.about C.P w a.eval = some f → (FR ro).fn f) ∧ next (a.put o.dst Go.undef) w := by
 obtain ⟨oc, xs, h1, ⟨ys, h2⟩, ⟨ds, h3⟩, h4⟩ := h
 obtain ⟨G, hi, gb, g1, g2, g4⟩ := hs
 have run : OcWp C.M oc (xs.map (evO σ)) hp (fun d' hp' => d' = d ∧ hp' = hp1) → o.wpIn (FR ro) 0 C.P a w next Q := by
  intro hoc
  refine OcWp_sound h1 hA.1 hi (rel_evO g4 h2) hoc (fun ch w' hp => hA.2 _ _ _ g2 hp) ?_
  rintro d' hp' G' v w' ⟨rfl, rfl⟩ k2 k3 k4
  refine ih _ _ ⟨G', k2, gb, by rw [zA5]; exact g1, by rw [zCu]; exact g2, ?_⟩
  exact zFr (fun t => Rel.evo _ k3 (g4 t)) g1 h3 k4
 have skp : d = .skip ∧ hp1 = hp → next (a.put o.dst Go.undef) w := by
  rintro ⟨rfl, rfl⟩
  refine ih _ _ ⟨G, hi, gb, by rw [zA5]; exact g1, by rw [zCu]; exact g2, ?_⟩
  exact zFr g4 g1 h3 (by simp [Rel])
 rcases h4 with ⟨hog, h4⟩ | ⟨j, want, t, hog, hj, htn, h4⟩
 ·simp only [Region.wanted, hog, if_true]; exact run h4
 ·have hlt : t < a.tmps.size := g1.symm ▸ htn
  have hy : yielded ops a.tmps j = match a.tmps.getD t Go.undef with | .bool b => some b | _ => none := by
   simp [yielded, hj, Array.getD_eq_getD_getElem?, hlt]
   cases a.tmps[t] <;> rfl
  have hrel := g4 t
  rcases h4 with ⟨e, h4⟩ | ⟨e, h4⟩ | ⟨e, h4⟩
  ·rw [e] at hrel; simp only [Rel] at hrel
   have : Region.wanted o (yielded ops a.tmps) = true := by
    simp only [Region.wanted, hog]; rw [hy, hrel]; cases want <;> rfl
   rw [this]; simp only [if_true]; exact run h4
  iterate 2
   ·rw [e] at hrel; simp only [Rel] at hrel
    have : Region.wanted o (yielded ops a.tmps) = false := by
     simp only [Region.wanted, hog]; rw [hy, hrel]; cases want <;> rfl
    rw [this]; simp only [Bool.false_eq_true, if_false]; exact ⟨fun _ _ => trivial, skp h4⟩
end
end GoV
end
section
set_option linter.unusedSimpArgs false
namespace GoV
open Go
theorem snoc_ind {α : Type} {p : List α → Prop} (h0 : p []) (hs : ∀ l a, p l → p (l ++ [a])) (l : List α) : p l := by
 have h : ∀ l : List α, p l.reverse := by
  intro l
  induction l with
  | nil => simpa using h0
  | cons a l ih => rw [List.reverse_cons]; exact hs _ a ih
 have := h l.reverse
 rwa [List.reverse_reverse] at this
theorem zDb (l : List Oper) (o : Oper) : zAw (l ++ [o]) = zAw l ++ [(o.after.toList.filter (Region.binds .any)).flatMap fun e => e.on :: (zAw l).getD e.on []] := by
 simp [zAw, List.foldl_append]
theorem zBk : ∀ (l : List Oper), (zAw l).length = l.length := by
 refine snoc_ind rfl fun l o ih => ?_
 rw [zDb]; simp [ih]
theorem zFd (l r : List Oper) : ∀ j, j < l.length → (zAw (l ++ r)).getD j [] = (zAw l).getD j [] := by
 refine snoc_ind (p := fun r => ∀ j, j < l.length → (zAw (l ++ r)).getD j [] = (zAw l).getD j []) (by simp) (fun r o ih => ?_) r
 intro j hj
 rw [← List.append_assoc, zDb, ← ih j hj]
 have : j < (zAw (l ++ r)).length := by rw [zBk]; simp; omega
 simp [List.getD, List.getElem?_append_left this]
theorem zFq {l : List Oper} {j i : Nat} {o : Oper} (hj : l[j]? = some o) (hi : i ∈ (zAw l).getD j []) : ∃ e ∈ o.after, Region.binds .any e = true ∧ (i = e.on ∨ i ∈ (zAw l).getD e.on []) := by
 have hlt : j < l.length := by
  rcases Nat.lt_or_ge j l.length with g | g
  ·exact g
  ·rw [List.getElem?_eq_none g] at hj; cases hj
 have hsplit : l = (l.take j ++ [o]) ++ l.drop (j + 1) := by
  have h1 : l.drop j = o :: l.drop (j + 1) := by
   rw [List.drop_eq_getElem_cons hlt]
   rw [List.getElem?_eq_getElem hlt] at hj; cases hj; rfl
  rw [List.append_assoc, List.singleton_append, ← h1, List.take_append_drop]
 have hlen : (l.take j).length = j := by simp; omega
 have hp : ∀ k, k < j + 1 → (zAw l).getD k [] = (zAw (l.take j ++ [o])).getD k [] := by
  intro k hk
  conv => lhs; rw [hsplit]
  exact zFd _ _ k (by simp [hlen]; omega)
 rw [hp j (by omega), zDb] at hi
 have e1 : (zAw (l.take j) ++ [(o.after.toList.filter (Region.binds .any)).flatMap fun e => e.on :: (zAw (l.take j)).getD e.on []]).getD j [] = (o.after.toList.filter (Region.binds .any)).flatMap fun e => e.on :: (zAw (l.take j)).getD e.on [] := by
  have : (zAw (l.take j)).length = j := by rw [zBk, hlen]
  simp [List.getD, List.getElem?_append_right, this]
 rw [e1, List.mem_flatMap] at hi
 obtain ⟨e, he, hi⟩ := hi
 obtain ⟨he, hbd⟩ := List.mem_filter.1 he
 refine ⟨e, by simpa using he, hbd, ?_⟩
 rcases List.mem_cons.1 hi with h | h
 ·exact .inl h
 ·refine .inr ?_
  by_cases hk : e.on < j
  ·rw [hp e.on (by omega), zFd _ _ e.on (by rw [hlen]; exact hk)]; exact h
  ·have : (zAw (l.take j)).getD e.on [] = [] := by
    simp [List.getD, List.getElem?_eq_none (show (zAw (l.take j)).length ≤ e.on by rw [zBk, hlen]; omega)]
   rw [this] at h; cases h
def dstO (ops : Array Oper) (j : Nat) : Option Nat := (ops[j]?).bind (·.dst)
def sig (ops : Array Oper) (σ0 : Nat → D) (ds : Nat → D) (E : Nat → Bool) : Nat → Nat → D
 | 0 => σ0
 | k + 1 => if E k then updO (sig ops σ0 ds E k) (dstO ops k) (ds k) else sig ops σ0 ds E k
theorem updO_ne {σ : Nat → D} {dst : Option Nat} {d : D} {t : Nat} (h : dst ≠ some t) : updO σ dst d t = σ t := by
 cases dst with
 | none => rfl
 | some u => simp only [updO]; rw [if_neg]; intro e; subst e; exact h rfl
theorem updO_eq {σ : Nat → D} {dst : Option Nat} {d : D} {t : Nat} (h : dst = some t) : updO σ dst d t = d := by
 subst h; simp [updO]
section
variable {ops : Array Oper} {σ0 : Nat → D} {ds : Nat → D}
theorem zDu {E : Nat → Bool} {t a : Nat} : ∀ b, a ≤ b → (∀ j, a ≤ j → j < b → E j = true → dstO ops j ≠ some t) → sig ops σ0 ds E b t = sig ops σ0 ds E a t := by
 intro b
 induction b with
 | zero => intro h _; rw [Nat.le_zero.1 h]
 | succ b ih =>
   intro h hn
   rcases Nat.lt_or_ge b a with g | g
   ·have : a = b + 1 := by omega
    rw [this]
   ·simp only [sig]
    split
    ·rename_i he
     rw [updO_ne (hn b g (by omega) he)]
     exact ih g fun j h1 h2 => hn j h1 (by omega)
    ·exact ih g fun j h1 h2 => hn j h1 (by omega)
theorem zEd {E E' : Nat → Bool} {t : Nat} : ∀ k, (∀ j, j < k → dstO ops j = some t → E j = E' j) → sig ops σ0 ds E k t = sig ops σ0 ds E' k t := by
 intro k
 induction k with
 | zero => intro _; rfl
 | succ k ih =>
   intro h
   have ih' := ih fun j hj => h j (by omega)
   by_cases hd : dstO ops k = some t
   ·simp only [sig, h k (by omega) hd]
    split
    ·rw [updO_eq hd, updO_eq hd]
    ·exact ih'
   ·have e1 : sig ops σ0 ds E (k + 1) t = sig ops σ0 ds E k t := zDu (k + 1) (by omega) fun j h1 h2 _ => by rwa [show j = k by omega]
    have e2 : sig ops σ0 ds E' (k + 1) t = sig ops σ0 ds E' k t := zDu (k + 1) (by omega) fun j h1 h2 _ => by rwa [show j = k by omega]
    rw [e1, e2, ih']
theorem sig_set {E : Nat → Bool} {i m : Nat} (him : i < m) (hE : E i = false) (hc : ∀ j t, j < m → j ≠ i → dstO ops i = some t → dstO ops j = some t → i < j → E j = false) :
 sig ops σ0 ds (fun j => E j || j == i) m = updO (sig ops σ0 ds E m) (dstO ops i) (ds i) := by
 funext t
 by_cases hd : dstO ops i = some t
 ·rw [updO_eq hd]
  have e1 : sig ops σ0 ds (fun j => E j || j == i) m t = sig ops σ0 ds (fun j => E j || j == i) (i + 1) t := zDu m (by omega) fun j h1 h2 he => by
   have hji : j ≠ i := by omega
   intro hdj
   have := hc j t h2 hji hd hdj (by omega)
   simp [this, hji] at he
  rw [e1]
  simp only [sig, beq_self_eq_true, Bool.or_true, if_true]
  rw [updO_eq hd]
 ·rw [updO_ne hd]
  refine zEd m fun j hj hdj => ?_
  have : j ≠ i := by intro e; subst e; exact hd hdj
  simp [this]
end
def unl (l : List Bool) : Nat := (l.filter fun b => !b).length
theorem unl_set : ∀ (l : List Bool) (i : Nat), l[i]? = some false → unl (l.set i true) + 1 = unl l
 | [], i, h => by simp at h
 | b :: l, 0, h => by simp at h; subst h; simp [unl]
 | b :: l, i + 1, h => by
   have := unl_set l i (by simpa using h)
   unfold unl at *
   rw [List.set_cons_succ]
   simp only [List.filter_cons]
   split <;> (try simp only [List.length_cons]) <;> omega
theorem unl_zero : ∀ (l : List Bool), unl l = 0 → ∀ i, i < l.length → l[i]? = some true
 | [], _, i, h => by simp at h
 | b :: l, h0, i, h => by
   simp only [unl, List.filter_cons] at h0
   split at h0
   ·simp at h0
   ·rename_i hb
    have hb' : b = true := by simpa using hb
    cases i with
    | zero => simp [hb']
    | succ i => simpa using unl_zero l h0 i (by simpa using h)
theorem zB1 {C : Cfg} {ops : Array Oper} : ∀ (l : List Nat) (ros : List RO), zA7 C ops l = some ros → ros.length = l.length
 | [], ros, h => by simp [zA7] at h; subst h; rfl
 | i :: l, ros, h => by
   obtain ⟨o, x, xs, _, _, h2, rfl⟩ := zCc h
   simp [zB1 l xs h2]
theorem zCx {C : Cfg} {ops : Array Oper} : ∀ (n k i : Nat) (ros : List RO), zA7 C ops (List.range' k n) = some ros → i < n → ∃ o x, ops[k + i]? = some o ∧ zCy C ops o = some x ∧ ros.drop i = x :: ros.drop (i + 1)
 | 0, _, i, _, _, h => by omega
 | n + 1, k, i, ros, h, hi => by
   rw [List.range'_succ] at h
   obtain ⟨o, x, xs, h0, h1, h2, rfl⟩ := zCc h
   cases i with
   | zero => exact ⟨o, x, h0, h1, rfl⟩
   | succ i =>
     obtain ⟨o', x', g0, g1, g2⟩ := zCx n (k + 1) i xs h2 (by omega)
     exact ⟨o', x', by rw [← g0]; congr 1; omega, g1, by simpa using g2⟩
theorem zFl {C : Cfg} {ops : Array Oper} : ∀ (m n k : Nat) (ros : List RO), zA7 C ops (List.range' k n) = some ros → m ≤ n → zA7 C ops (List.range' k m) = some (ros.take m)
 | 0, _, _, _, _, _ => rfl
 | m + 1, 0, _, _, _, h => by omega
 | m + 1, n + 1, k, ros, h, hm => by
   rw [List.range'_succ] at h
   obtain ⟨o, x, xs, h0, h1, h2, rfl⟩ := zCc h
   rw [List.range'_succ]
   simp [zA7, h0, h1, zFl m n (k + 1) xs h2 (by omega)]
theorem masks_snoc (l : List Oper) (o : Oper) : masks (l ++ [o]) = masks l ++ [o.after.toList.foldl (fun m e => if Region.binds .any e then m ||| ((1 <<< e.on) ||| (masks l).getD e.on 0) else m) 0] := by
 simp [masks, List.foldl_append]
theorem zC7 : ∀ (l : List Oper), (masks l).length = l.length := by
 refine snoc_ind rfl fun l o ih => ?_
 rw [masks_snoc]; simp [ih]
theorem zDz : ∀ (l : List Oper) (j i : Nat), ((masks l).getD j 0).testBit i = true → i ∈ (zAw l).getD j [] := by
 refine snoc_ind (by simp [masks, zAw]) fun l o ih j i h => ?_
 rw [masks_snoc] at h
 rw [zDb]
 by_cases hj : j < l.length
 ·rw [List.getD, List.getElem?_append_left (by rw [zC7]; exact hj)] at h
  rw [List.getD, List.getElem?_append_left (by rw [zBk]; exact hj)]
  exact ih j i h
 ·by_cases hj2 : j = l.length
  ·subst hj2
   rw [List.getD, List.getElem?_append_right (by rw [zC7]; exact Nat.le_refl _)] at h
   rw [List.getD, List.getElem?_append_right (by rw [zBk]; exact Nat.le_refl _)]
   simp only [zC7, Nat.sub_self, List.getElem?_cons_zero, Option.getD_some] at h
   simp only [zBk, Nat.sub_self, List.getElem?_cons_zero, Option.getD_some]
   have key : ∀ (es : List Edge) (m : Nat), (es.foldl (fun m e => if Region.binds .any e then m ||| ((1 <<< e.on) ||| (masks l).getD e.on 0) else m) m).testBit i = true →
    m.testBit i = true ∨ i ∈ (es.filter (Region.binds .any)).flatMap fun e => e.on :: (zAw l).getD e.on [] := by
    intro es
    induction es with
    | nil => intro m h; exact .inl h
    | cons e es ihe =>
      intro m h
      simp only [List.foldl_cons] at h
      by_cases hb : Region.binds .any e = true
      ·rw [if_pos hb] at h
       rw [List.filter_cons_of_pos hb, List.flatMap_cons]
       rcases ihe _ h with q | q
       ·rw [Nat.testBit_or, Nat.testBit_or, Bool.or_eq_true, Bool.or_eq_true] at q
        rcases q with q | q | q
        ·exact .inl q
        ·right
         have : i = e.on := by
          rw [Nat.one_shiftLeft, Nat.testBit_two_pow] at q
          exact (of_decide_eq_true q).symm
         subst this; simp
        ·right; exact List.mem_append.2 (.inl (List.mem_cons_of_mem _ (ih e.on i q)))
       ·right; exact List.mem_append.2 (.inr q)
      ·rw [if_neg hb] at h
       rw [List.filter_cons_of_neg hb]
       exact ihe _ h
   rcases key _ 0 h with q | q
   ·simp at q
   ·exact q
  ·have : (masks l ++ [o.after.toList.foldl (fun m e => if Region.binds .any e then m ||| ((1 <<< e.on) ||| (masks l).getD e.on 0) else m) 0])[j]? = none := by
    rw [List.getElem?_eq_none]; simp [zC7]; omega
   rw [List.getD, this] at h
   simp at h
theorem zAv {ops : Array Oper} {m : Nat} (h : drawOk ops m = true) {j : Nat} {oj : Oper} (hj : ops[j]? = some oj) :
 (∀ e ∈ oj.after, Region.binds .any e = true → e.on < j) ∧ ∀ i, i < j → ∃ oi, ops[i]? = some oi ∧ (i ∈ (zAw ops.toList).getD j [] ∨ (j < m ∧ clash ops oi oj = false)) := by
 have hlt : j < ops.size := (Array.getElem?_eq_some_iff.1 hj).1
 simp only [drawOk, List.all_eq_true, List.mem_range] at h
 have h1 := h j hlt
 rw [hj] at h1
 simp only [Bool.and_eq_true, Bool.or_eq_true, List.all_eq_true, List.mem_range] at h1
 obtain ⟨h2, h3⟩ := h1
 refine ⟨fun e he hbd => ?_, fun i hi => ?_⟩
 ·have := (Array.all_eq_true_iff_forall_mem.1 h2) e he
  simpa [hbd] using this
 ·rcases h3 with h3 | h3
  ·have e : (masks ops.toList).getD j 0 = 2 ^ j - 1 := by simpa using h3
   refine ⟨_, Array.getElem?_eq_getElem (show i < ops.size by omega), .inl (zDz _ _ _ ?_)⟩
   rw [e, Nat.testBit_two_pow_sub_one]
   simpa using hi
  ·have h4 := h3 i hi
   split at h4
   ·rename_i oi ho
    refine ⟨oi, ho, ?_⟩
    rw [Bool.or_eq_true] at h4
    rcases h4 with q | q
    ·exact .inl (zDz _ _ _ q)
    ·exact .inr (by simpa using q)
   ·cases h4
theorem zE2 {ops : Array Oper} {x y : Oper} (h : clash ops x y = false) : (∀ t, x.dst = some t → t ∉ zCm ops y) ∧ (∀ t, y.dst = some t → t ∉ zCm ops x) := by
 simp only [clash, Bool.or_eq_false_iff] at h
 refine ⟨fun t ht hm => ?_, fun t ht hm => ?_⟩
 iterate 2
  ·rw [ht] at h; simp [List.contains_iff_mem, hm] at h
theorem zBj {listed : Array Bool} {i j : Nat} (hi : i < listed.size) : (listed.setIfInBounds i true).getD j false = (listed.getD j false || j == i) := by
 by_cases e : i = j
 ·subst e; simp [hi]
 ·rw [getD_set_ne false e]
  have : (j == i) = false := by simp; exact fun h => e h.symm
  simp [this]
theorem befores_lt {ops : Array Oper} {m : Nat} (hB : drawOk ops m = true) : ∀ (j : Nat), j < ops.size → ∀ i ∈ (zAw ops.toList).getD j [], i < j := by
 intro j
 induction j using Nat.strongRecOn with
 | _ j ih =>
   intro hj i hi
   have hoj : ops[j]? = some ops[j] := Array.getElem?_eq_getElem hj
   have hoj' : ops.toList[j]? = some ops[j] := by rw [Array.getElem?_toList]; exact hoj
   obtain ⟨e, he, hbd, h1⟩ := zFq hoj' hi
   have hlt := (zAv hB hoj).1 e he hbd
   rcases h1 with h1 | h1
   ·omega
   ·have := ih e.on hlt (by omega) i h1; omega
def hpE (hps : Nat → Hp) (fl E : Nat → Bool) : Nat → Hp
 | 0 => hps 0
 | k + 1 => if E k && !fl k then hps (k + 1) else hpE hps fl E k
section
variable {hps : Nat → Hp} {fl : Nat → Bool}
theorem hpE_none {E : Nat → Bool} : ∀ k, (∀ j, j < k → E j = false) → hpE hps fl E k = hps 0 := by
 intro k
 induction k with
 | zero => intro _; rfl
 | succ k ih => intro h; simp [hpE, h k (by omega), ih fun j hj => h j (by omega)]
theorem hpE_all {E : Nat → Bool} : ∀ k, (∀ j, j < k → fl j = false → E j = true) → (∀ j, j < k → fl j = true → hps (j + 1) = hps j) → hpE hps fl E k = hps k := by
 intro k
 induction k with
 | zero => intro _ _; rfl
 | succ k ih =>
   intro h hf
   have e := ih (fun j hj => h j (by omega)) (fun j hj => hf j (by omega))
   cases hb : fl k with
   | true => simp [hpE, hb, e, hf k (by omega) hb]
   | false => simp [hpE, hb, h k (by omega) hb]
theorem hpE_skip {E : Nat → Bool} {a : Nat} : ∀ b, a ≤ b → (∀ j, a ≤ j → j < b → fl j = false → E j = false) → hpE hps fl E b = hpE hps fl E a := by
 intro b
 induction b with
 | zero => intro h _; rw [Nat.le_zero.1 h]
 | succ b ih =>
   intro h hn
   rcases Nat.lt_or_ge b a with g | g
   ·have : a = b + 1 := by omega
    rw [this]
   ·rw [← ih g fun j h1 h2 => hn j h1 (by omega)]
    cases hb : fl b with
    | true => simp [hpE, hb]
    | false => simp [hpE, hb, hn b g (by omega) hb]
theorem hpE_agree {E E' : Nat → Bool} : ∀ k, (∀ j, j < k → fl j = false → E j = E' j) → hpE hps fl E k = hpE hps fl E' k := by
 intro k
 induction k with
 | zero => intro _; rfl
 | succ k ih =>
   intro h
   have e := ih fun j hj => h j (by omega)
   cases hb : fl k with
   | true => simp [hpE, hb, e]
   | false => simp [hpE, hb, h k (by omega) hb, e]
end
theorem isEff_free {oc : OC} (h : isEff oc = true) : zD6 oc = false := by cases oc <;> simp_all [isEff, zD6]
theorem quietAt_spec {bs : List Nat} {ros : List RO} {m j i : Nat} {y : RO} (h : zFo bs ros m j = false) (hi : i < m) (hij : i ≠ j) (hy : ros[i]? = some y) (hf : zD6 y.oc = false) :
 (bs.getD j 0).testBit i = true ∨ (bs.getD i 0).testBit j = true := by
 unfold zFo at h
 split at h
 ·split at h
  ·have := List.any_eq_false.1 h i (List.mem_range.2 hi)
   simp only [hy, hf, unord, Bool.not_false, Bool.and_true, Bool.and_eq_true, bne_iff_ne, ne_eq, hij, not_false_eq_true, true_and, Bool.not_eq_true', not_and] at this
   cases h1 : (bs.getD j 0).testBit i with
   | true => exact .inl rfl
   | false =>
     cases h2 : (bs.getD i 0).testBit j with
     | true => exact .inr rfl
     | false =>
       exfalso
       have q := this h1
       exact q h2
  ·cases h
 ·cases h
theorem quietAt_free {bs : List Nat} {ros : List RO} {m j : Nat} {x : RO} (hx : ros[j]? = some x) (hf : zD6 x.oc = true) : zFo bs ros m j = true := by
 unfold zFo
 simp only [hx]
 rw [if_neg]
 intro h; rw [isEff_free h] at hf; cases hf
section
variable {C : Cfg} {w0 : World} {B : Gh}
theorem draw_sound {ro : Option Nat} {Q : Exit → Act → World → Prop} (hA : C.M.start w0 B ∧ PQ C w0 B Q) {ops : Array Oper} {m : Nat} {ros : List RO} {K : St → Prop} (hB : drawOk ops m = true) (hm : m ≤ ops.size) (hr : zA7 C ops (List.range' 0 ops.size) = some ros)
 (hQ : ∀ s a w, K s → Sim C w0 B s a w → Q .normal a w) {s : St} (_hl : s.env.length = C.pers.length)
 {ds : Nat → D} {hps : Nat → Hp} {fl : Nat → Bool} {s1 : St} (hfl : fl = zFo (masks ops.toList) ros m) (hk1 : opsWp C.M (ros.drop m) K s1) (hpm : hps m = s1.hp) (hl1 : s1.env.length = C.pers.length)
 (hfq : ∀ i, i < m → fl i = true → hps (i + 1) = hps i)
 (hst : ∀ i, i < m → ∃ o, ops[i]? = some o ∧ StepQ C ops (hps i) (hps (i + 1)) (sig ops (s.slot C.pers) ds (fun _ => true) i) o (ds i))
 (hend : sig ops (s.slot C.pers) ds (fun _ => true) m = s1.slot C.pers) :
 ∀ (fuel : Nat) (listed : Array Bool) (a : Act) (w : World), listed.size = ops.size → unl listed.toList ≤ fuel →
  (∀ j oj, ops[j]? = some oj → listed.getD j false = true → ∀ e ∈ oj.after, Region.binds .any e = true → listed.getD e.on false = true) →
  (((∀ j, listed.getD j false = true → j < m) ∧ SimF C w0 B (sig ops (s.slot C.pers) ds (fun j => listed.getD j false) m) (hpE hps fl (fun j => listed.getD j false) m) a w) ∨
    ∃ i s', m ≤ i ∧ (∀ j, j < ops.size → (listed.getD j false = true ↔ j < i)) ∧ Sim C w0 B s' a w ∧ opsWp C.M (ros.drop i) K s') →
  wpAnyIn (FR ro) 0 C.P .any ops Q fuel listed a w := by
 have hros : ros.length = ops.size := by rw [zB1 _ _ hr]; simp
 have hsub : ∀ (listed : Array Bool), (∀ j oj, ops[j]? = some oj → listed.getD j false = true → ∀ e ∈ oj.after, Region.binds .any e = true → listed.getD e.on false = true) →
  ∀ j oj, ops[j]? = some oj → (∀ e ∈ oj.after, Region.binds .any e = true → listed.getD e.on false = true) → ∀ i ∈ (zAw ops.toList).getD j [], listed.getD i false = true := by
  intro listed hcl j
  induction j using Nat.strongRecOn with
  | _ j ih =>
    intro oj hj ha i hi
    obtain ⟨e, he, hbd, h1⟩ := zFq (by simpa using hj) hi
    rcases h1 with h1 | h1
    ·rw [h1]; exact ha e he hbd
    ·have hlt := (zAv hB hj).1 e he hbd
     have hjs : j < ops.size := (Array.getElem?_eq_some_iff.1 hj).1
     have hoe : ops[e.on]? = some ops[e.on] := Array.getElem?_eq_getElem (by omega)
     exact ih e.on hlt _ hoe (hcl e.on _ hoe (ha e he hbd)) i h1
 have conv : ∀ (listed : Array Bool) (a : Act) (w : World), (∀ j, listed.getD j false = true → j < m) → (∀ j, j < m → listed.getD j false = true) →
  SimF C w0 B (sig ops (s.slot C.pers) ds (fun j => listed.getD j false) m) (hpE hps fl (fun j => listed.getD j false) m) a w → Sim C w0 B s1 a w := by
  intro listed a w h1 h2 hs
  have e : sig ops (s.slot C.pers) ds (fun j => listed.getD j false) m = s1.slot C.pers := by
   rw [← hend]; funext t
   exact zEd m fun j hj _ => h2 j hj
  obtain ⟨G, g1, gb, g2, g3, g4⟩ := hs
  rw [hpE_all m (fun j hj _ => h2 j hj) hfq] at g1
  exact ⟨G, by rw [← hpm]; exact g1, gb, g2, g3, hl1, by rw [← e]; exact g4⟩
 have fin : ∀ (listed : Array Bool) (a : Act) (w : World), (∀ j, j < ops.size → listed.getD j false = true) →
  (((∀ j, listed.getD j false = true → j < m) ∧ SimF C w0 B (sig ops (s.slot C.pers) ds (fun j => listed.getD j false) m) (hpE hps fl (fun j => listed.getD j false) m) a w) ∨
    ∃ i s', m ≤ i ∧ (∀ j, j < ops.size → (listed.getD j false = true ↔ j < i)) ∧ Sim C w0 B s' a w ∧ opsWp C.M (ros.drop i) K s') → Q .normal a w := by
  intro listed a w hall h
  rcases h with ⟨h1, h2⟩ | ⟨i, s', h1, h2, h3, h4⟩
  ·have hs1 := conv listed a w h1 (fun j hj => hall j (by omega)) h2
   have hmn : ops.size ≤ m := by
    rcases Nat.eq_zero_or_pos ops.size with g | g
    ·omega
    ·have := h1 (ops.size - 1) (hall _ (by omega)); omega
   rw [List.drop_eq_nil_of_le (by omega)] at hk1
   exact hQ s1 a w hk1 hs1
  ·have hin : ops.size ≤ i := by
    rcases Nat.eq_zero_or_pos ops.size with g | g
    ·omega
    ·have := (h2 (ops.size - 1) (by omega)).1 (hall _ (by omega)); omega
   rw [List.drop_eq_nil_of_le (by omega)] at h4
   exact hQ s' a w h4 h3
 have least : ∀ (listed : Array Bool), listed.size = ops.size → (∀ j oj, ops[j]? = some oj → listed.getD j false = true → ∀ e ∈ oj.after, Region.binds .any e = true → listed.getD e.on false = true) →
  Region.ready .any ops listed = [] → ∀ j, j < ops.size → listed.getD j false = true := by
  intro listed hsz hcl hr0 j
  induction j using Nat.strongRecOn with
  | _ j ih =>
    intro hj
    cases hb : listed.getD j false with
    | true => rfl
    | false =>
      exfalso
      have hoj : ops[j]? = some ops[j] := Array.getElem?_eq_getElem hj
      have : j ∈ Region.ready .any ops listed := by
       rw [mem_ready]
       refine ⟨?_, ops[j], hoj, fun e he hbd => ?_⟩
       ·have hlt : j < listed.size := by omega
        simp [hlt] at hb ⊢; exact hb
       ·have := (zAv hB hoj).1 e he hbd
        exact ih e.on this (by omega)
      rw [hr0] at this; cases this
 intro fuel
 induction fuel with
 | zero =>
   intro listed a w hsz hu hcl h
   have hall : ∀ j, j < ops.size → listed.getD j false = true := by
    intro j hj
    have hlt : j < listed.size := by omega
    have := unl_zero listed.toList (by omega) j (by simpa using hlt)
    simp [hlt] at this ⊢; exact this
   refine ⟨?_, fin listed a w hall h⟩
   cases hr0 : Region.ready .any ops listed with
   | nil => rfl
   | cons i l =>
     have : i ∈ Region.ready .any ops listed := by rw [hr0]; simp
     obtain ⟨h1, o, ho, _⟩ := mem_ready.1 this
     have hlt : i < ops.size := (Array.getElem?_eq_some_iff.1 ho).1
     have h2 := hall i hlt
     have hlt2 : i < listed.size := by omega
     simp [hlt2] at h1 h2; rw [h1] at h2; cases h2
 | succ fuel ih =>
   intro listed a w hsz hu hcl h
   refine ⟨fun hr0 => fin listed a w (least listed hsz hcl hr0) h, fun i hi => ?_⟩
   obtain ⟨hun, o, ho, hdeps⟩ := mem_ready.1 hi
   have hlt : i < ops.size := (Array.getElem?_eq_some_iff.1 ho).1
   have hlt2 : i < listed.size := by omega
   have hunf : listed.getD i false = false := by simp [hlt2] at hun ⊢; exact hun
   have hdeps' : ∀ e ∈ o.after, Region.binds .any e = true → listed.getD e.on false = true := hdeps
   have hbef := hsub listed hcl i o ho hdeps'
   have hcl' : ∀ j oj, ops[j]? = some oj → (listed.setIfInBounds i true).getD j false = true → ∀ e ∈ oj.after, Region.binds .any e = true → (listed.setIfInBounds i true).getD e.on false = true := by
    intro j oj hj hlj e he hbd
    rw [zBj hlt2] at hlj ⊢
    simp only [Bool.or_eq_true, beq_iff_eq] at hlj ⊢
    rcases hlj with g | g
    ·exact .inl (hcl j oj hj g e he hbd)
    ·subst g
     rw [ho] at hj; cases hj
     exact .inl (hdeps' e he hbd)
   have hu' : unl (listed.setIfInBounds i true).toList ≤ fuel := by
    have := unl_set listed.toList i (by simp [hlt2] at hunf ⊢; exact hunf)
    simp only [Array.toList_setIfInBounds]; omega
   have hafter : m ≤ i → ∀ j, j < ops.size → (listed.getD j false = true ↔ j < i) := by
    intro hmi j hj
    constructor
    ·intro hlj
     rcases Nat.lt_trichotomy j i with g | g | g
     ·exact g
     ·subst g; rw [hunf] at hlj; cases hlj
     ·exfalso
      have hoj : ops[j]? = some ops[j] := Array.getElem?_eq_getElem hj
      obtain ⟨oi, hoi, q⟩ := (zAv hB hoj).2 i g
      rcases q with q | q
      ·have := hsub listed hcl j _ hoj (hcl j _ hoj hlj) i q
       rw [hunf] at this; cases this
      ·omega
    ·intro hji
     obtain ⟨oi, hoi, q⟩ := (zAv hB ho).2 j hji
     rcases q with q | q
     ·exact hbef j q
     ·omega
   unfold wpOpIn
   rw [ho]
   by_cases him : i < m
   ·
    rcases h with ⟨h1, h2⟩ | ⟨i', s', h1, h2, h3, h4⟩
    ·obtain ⟨o', ho', hq⟩ := hst i him
     rw [ho] at ho'; cases ho'
     have ords : ∀ j, j < m → j ≠ i → ∀ t, t ∈ zCm ops o → dstO ops j = some t → (listed.getD j false = true ↔ j < i) := by
      intro j hj hji t ht hd
      have hjs : j < ops.size := by omega
      have hoj : ops[j]? = some ops[j] := Array.getElem?_eq_getElem hjs
      have hdj : ops[j].dst = some t := by simpa [dstO, hoj] using hd
      constructor
      ·intro hlj
       rcases Nat.lt_or_ge j i with g | g
       ·exact g
       ·exfalso
        obtain ⟨oi, hoi, q⟩ := (zAv hB hoj).2 i (by omega)
        rw [ho] at hoi; cases hoi
        rcases q with q | q
        ·have := hsub listed hcl j _ hoj (hcl j _ hoj hlj) i q
         rw [hunf] at this; cases this
        ·exact (zE2 q.2).2 t hdj ht
      ·intro g
       obtain ⟨oi, hoi, q⟩ := (zAv hB ho).2 j g
       rw [hoj] at hoi; cases hoi
       rcases q with q | q
       ·exact hbef j q
       ·exact absurd ht ((zE2 q.2).1 t hdj)
     have hlook : ∀ t ∈ o.looksAt ops, sig ops (s.slot C.pers) ds (fun _ => true) i t = sig ops (s.slot C.pers) ds (fun j => listed.getD j false) m t := by
      intro t ht
      have ht' : t ∈ zCm ops o := by simp [zCm, ht]
      have e1 : sig ops (s.slot C.pers) ds (fun j => listed.getD j false) m t = sig ops (s.slot C.pers) ds (fun j => listed.getD j false) i t := by
       refine zDu m (by omega) fun j g1 g2 g3 hd => ?_
       by_cases hji : j = i
       ·subst hji; rw [hunf] at g3; cases g3
       ·have := (ords j g2 hji t ht' hd).1 g3; omega
      rw [e1]
      exact zEd i fun j hj hd => ((ords j (by omega) (by omega) t ht' hd).2 hj).symm
     obtain ⟨o', x, r1, r2, r3⟩ := zCx _ _ i ros hr hlt
     rw [Nat.zero_add, ho] at r1; cases r1
     have hx : ros[i]? = some x := by
      have := List.getElem?_drop (xs := ros) (i := i) (j := 0)
      rw [r3] at this; simpa using this.symm
     have hL : ∀ j, (listed.setIfInBounds i true).getD j false = (listed.getD j false || j == i) := fun j => zBj hlt2
     have hstep : StepQ C ops (hpE hps fl (fun j => listed.getD j false) m) (hpE hps fl (fun j => (listed.setIfInBounds i true).getD j false) m) (sig ops (s.slot C.pers) ds (fun _ => true) i) o (ds i) := by
      by_cases hfree : zD6 x.oc = true
      ·have hfi : fl i = true := by rw [hfl]; exact quietAt_free hx hfree
       have e : hpE hps fl (fun j => (listed.setIfInBounds i true).getD j false) m = hpE hps fl (fun j => listed.getD j false) m := by
        refine hpE_agree m fun j hj hfj => ?_
        have : j ≠ i := by intro e; subst e; rw [hfi] at hfj; cases hfj
        simp only [hL]; simp [this]
       rw [e]
       exact hq.free r2 hfree
      ·have hfree : zD6 x.oc = false := by simpa using hfree
       have hord : ∀ j, j < m → j ≠ i → fl j = false → (j < i ∧ listed.getD j false = true) ∨ (i < j ∧ listed.getD j false = false) := by
        intro j hj hji hfj
        rw [hfl] at hfj
        rcases quietAt_spec hfj him (fun e => hji e.symm) hx hfree with q | q
        ·have q' := zDz _ _ _ q
         refine .inr ⟨befores_lt hB j (by omega) i q', ?_⟩
         cases hb : listed.getD j false with
         | false => rfl
         | true =>
           exfalso
           have hoj : ops[j]? = some ops[j] := Array.getElem?_eq_getElem (by omega)
           have := hsub listed hcl j _ hoj (hcl j _ hoj hb) i q'
           rw [hunf] at this; cases this
        ·have q' := zDz _ _ _ q
         exact .inl ⟨befores_lt hB i hlt j q', hbef j q'⟩
       have e1 : hpE hps fl (fun j => listed.getD j false) m = hps i := by
        rw [hpE_skip (a := i) m (by omega) fun j g1 g2 g3 => ?_]
        ·refine hpE_all i (fun j hj hfj => ?_) fun j hj => hfq j (by omega)
         rcases hord j (by omega) (by omega) hfj with q | q
         ·exact q.2
         ·omega
        ·by_cases e : j = i
         ·subst e; exact hunf
         ·rcases hord j g2 e g3 with q | q
          ·omega
          ·exact q.2
       have e2 : hpE hps fl (fun j => (listed.setIfInBounds i true).getD j false) m = hps (i + 1) := by
        rw [hpE_skip (a := i + 1) m (by omega) fun j g1 g2 g3 => ?_]
        ·refine hpE_all (i + 1) (fun j hj hfj => ?_) fun j hj => hfq j (by omega)
         simp only [hL]
         by_cases e : j = i
         ·subst e; simp
         ·rcases hord j (by omega) e hfj with q | q
          ·simp only [q.2, Bool.true_or]
          ·omega
        ·simp only [hL]
         have e : j ≠ i := by omega
         rcases hord j g2 e g3 with q | q
         ·omega
         ·simp only [q.2, Bool.false_or]; simp [e]
       rw [e1, e2]; exact hq
     refine StepQ.sound hA (hstep.congr hlook) h2 fun a' w' hs' => ih _ a' w' (by simpa using hsz) hu' hcl' (.inl ⟨fun j hj => ?_, ?_⟩)
     ·rw [zBj hlt2] at hj
      simp only [Bool.or_eq_true, beq_iff_eq] at hj
      rcases hj with g | g
      ·exact h1 j g
      ·omega
     ·have e2 : sig ops (s.slot C.pers) ds (fun j => (listed.setIfInBounds i true).getD j false) m = updO (sig ops (s.slot C.pers) ds (fun j => listed.getD j false) m) (dstO ops i) (ds i) := by
       rw [← sig_set him hunf]
       ·congr 1; funext j; exact zBj hlt2
       ·intro j t g1 g2 g3 g4 g5
        cases hb : listed.getD j false with
        | false => rfl
        | true =>
          have hoi : o.dst = some t := by simpa [dstO, ho] using g3
          have := (ords j g1 g2 t (by simp [zCm, hoi]) g4).1 hb
          omega
      rw [e2]
      have : dstO ops i = o.dst := by simp [dstO, ho]
      rw [this]; exact hs'
    ·exfalso
     have := (h2 i hlt).2 (by omega)
     rw [hunf] at this; cases this
   ·
    have hmi : m ≤ i := by omega
    have hiff := hafter hmi
    obtain ⟨s', hs', hk'⟩ : ∃ s', Sim C w0 B s' a w ∧ opsWp C.M (ros.drop i) K s' := by
     rcases h with ⟨h1, h2⟩ | ⟨i', s', h1, h2, h3, h4⟩
     ·have hie : i = m := by
       rcases Nat.lt_or_ge m i with g | g
       ·have := h1 m ((hiff m (by omega)).2 g); omega
       ·omega
      subst hie
      exact ⟨s1, conv listed a w h1 (fun j hj => (hiff j (by omega)).2 hj) h2, hk1⟩
     ·have hie : i' = i := by
       rcases Nat.lt_trichotomy i' i with g | g | g
       ·have q1 := (hiff i' (by omega)).2 g
        have := (h2 i' (by omega)).1 q1; omega
       ·exact g
       ·have := (h2 i hlt).2 g; rw [hunf] at this; cases this
      subst hie
      exact ⟨s', h3, h4⟩
    obtain ⟨o', x, g1, g2, g3⟩ := zCx _ _ i ros hr hlt
    rw [Nat.zero_add, ho] at g1; cases g1
    rw [g3] at hk'
    refine head_sound hA g2 (K := opsWp C.M (ros.drop (i + 1)) K) (fun s'' a' w' q1 q2 => ih _ a' w' (by simpa using hsz) hu' hcl' (.inr ⟨i + 1, s'', by omega, fun j hj => ?_, q2, q1⟩)) hk' hs'
    rw [zBj hlt2]
    simp only [Bool.or_eq_true, beq_iff_eq]
    have := hiff j hj
    constructor
    ·rintro (q | q)
     ·have := this.1 q; omega
     ·omega
    ·intro q
     by_cases e : j = i
     ·exact .inr e
     ·exact .inl (this.2 (by omega))
theorem zDe (ops : Array Oper) : zBv ops ≤ ops.size := by
 unfold zBv
 have h : ∀ (l : List Nat) (m n : Nat) (p : Nat → Bool), m ≤ n → (∀ j ∈ l, j < n) → l.foldl (fun m j => if p j then m else j + 1) m ≤ n := by
  intro l
  induction l with
  | nil => intro m n p h _; simpa using h
  | cons j l ih =>
    intro m n p h hj
    simp only [List.foldl_cons]
    refine ih _ n p ?_ (fun k hk => hj k (by simp [hk]))
    split
    ·exact h
    ·have := hj j (by simp); omega
 exact h _ 0 ops.size _ (Nat.zero_le _) (fun j hj => List.mem_range.1 hj)
theorem flags_get {ops : Array Oper} {ros : List RO} {m i : Nat} {q : Bool} (hi : i < m) (h : ((flags ops ros m)[i]?).map (·.2) = some q) : zFo (masks ops.toList) ros m i = q := by
 unfold flags at h
 rw [List.getElem?_take_of_lt hi] at h
 simp only [List.zip, List.getElem?_zipWith, List.getElem?_map] at h
 cases h1 : ros[i]? with
 | none => simp [h1] at h
 | some x => simpa [h1, List.getElem?_range hi] using h
theorem flags_fst {ops : Array Oper} {ros : List RO} {m : Nat} (h : m ≤ ros.length) : (flags ops ros m).map (·.1) = ros.take m := by
 unfold flags
 refine List.ext_getElem? fun i => ?_
 rcases Nat.lt_or_ge i m with hi | hi
 ·simp only [List.getElem?_map, List.getElem?_take_of_lt hi, List.zip, List.getElem?_zipWith]
  rw [List.getElem?_range hi, List.getElem?_eq_getElem (show i < ros.length by omega)]
  rfl
 ·rw [List.getElem?_map, List.getElem?_eq_none (by simp; omega), List.getElem?_eq_none (by simp; omega)]
  rfl
theorem swp_regD {Q : Ex → St → Prop} {s : St} {qs : List (RO × Bool)} {ros : List RO} (h : opsQ C.M qs (fun s1 => opsWp C.M ros (fun s' => Q .normal s'.done) s1) s) : SWp C (.regD qs ros) Q s := by
 refine ⟨fun c hc w0 B hA a w hs => ?_⟩
 have hreg : ∀ id ops d, c = .region id ops d → _ := fun id ops d e => zAp (e ▸ hc)
 cases c <;> (try simp only [zAe] at hc) <;> (try (cases hc; done))
 case region id ops d =>
  rcases hreg _ _ _ rfl with ⟨r, h1, _⟩ | ⟨r, h1, rfl, hB1, hB2, hr⟩ | h1
  ·cases h1
  ·cases h1
   have hB := And.intro hB1 hB2
   ·skip
    rw [List.range_eq_range'] at hr
    have hl : s.env.length = C.pers.length := by obtain ⟨_, _, _, _, _, q, _⟩ := hs; exact q
    have hrl : zBv ops ≤ r.length := by rw [zB1 _ _ hr]; simpa using zDe ops
    obtain ⟨ds, σ, hps, s1, k1, k2, k2', k3, k4, k5, k6⟩ := opsQ_trace (zBv ops) 0 _ _ s (zFl _ _ 0 _ hr (zDe ops)) (flags_fst hrl) hl h
    have hsig : ∀ i, i ≤ zBv ops → σ i = sig ops (s.slot C.pers) ds (fun _ => true) i := by
     intro i
     induction i with
     | zero => intro _; exact k4
     | succ i ih =>
       intro hi
       obtain ⟨o, q, q1, _, _, _, q3⟩ := k6 i (Nat.zero_le _) (by omega)
       rw [q3, ih (by omega)]
       simp [sig, dstO, q1]
    refine fun ro => wpIn_region_any hB.2 (draw_sound ⟨hA, lift_pq⟩ (s := s) (s1 := s1) (K := fun s' => Q .normal s'.done) (ds := ds) (hps := hps) (m := zBv ops) (ros := r) hB.1 (zDe ops) hr (fun s a w hk hs => ⟨s.done, zEa _ _ _ _ hs, hk⟩) hl rfl k1 (by rw [← k2', Nat.zero_add]) k3 (fun i hi hf => ?_) (fun i hi => ?_) ?_ ops.size _ a _ (by simp) ?_ ?_ (.inl ⟨?_, ?_⟩))
    ·obtain ⟨o, q, q1, q2, q3, _⟩ := k6 i (Nat.zero_le _) (by omega)
     exact q3 ((flags_get hi (by simpa using q2)) ▸ hf)
    ·obtain ⟨o, q, q1, _, _, q2, _⟩ := k6 i (Nat.zero_le _) (by omega)
     rw [hsig i (by omega)] at q2
     exact ⟨o, q1, q2⟩
    ·rw [← hsig _ (Nat.le_refl _), ← k5, Nat.zero_add]
    ·simp only [unl, Array.toList_replicate]
     exact Nat.le_trans (List.length_filter_le _ _) (by simp)
    ·intro j oj hj hlj
     exfalso
     have : (Array.replicate ops.size false).getD j false = false := by
      simp only [Array.getD_eq_getD_getElem?, Array.getElem?_replicate]; split <;> rfl
     rw [this] at hlj; cases hlj
    ·intro j hlj
     exfalso
     have : (Array.replicate ops.size false).getD j false = false := by
      simp only [Array.getD_eq_getD_getElem?, Array.getElem?_replicate]; split <;> rfl
     rw [this] at hlj; cases hlj
    ·obtain ⟨G, g0, gb, g1, g2, g3, g4⟩ := hs
     have hrep : ∀ j, (Array.replicate ops.size false).getD j false = false := by
      intro j
      simp only [Array.getD_eq_getD_getElem?, Array.getElem?_replicate]; split <;> rfl
     have e : sig ops (s.slot C.pers) ds (fun j => (Array.replicate ops.size false).getD j false) (zBv ops) = s.slot C.pers := by
      funext t
      exact zDu (ops := ops) (σ0 := s.slot C.pers) (ds := ds) (E := fun j => (Array.replicate ops.size false).getD j false) (t := t) (a := 0) (zBv ops) (Nat.zero_le _) (fun j _ _ hE => by
       rw [hrep] at hE; cases hE)
     rw [e, hpE_none _ (fun j _ => hrep j), k2]
     obtain ⟨q1, q2⟩ := g0.drawn (w.drawn + 1)
     exact ⟨G, q1, gb, g1, g2, fun t => Rel.evo _ q2 (g4 t)⟩
  ·cases h1
 all_goals exfalso; (repeat' split at hc) <;> simp_all
end
end GoV
end
section
set_option linter.unusedSimpArgs false
namespace GoV
open Go
def cutF (n : Nat) (b : Nat) : Option Nat := if b < n then some b else none
def Blk.rnL (β τ : Nat → Option Nat) : List Blk → List Blk
 | [] => []
 | B :: r => B.rn β τ :: Blk.rnL β τ r
def Tv.rnL (β τ : Nat → Option Nat) : List Tv → List Tv
 | [] => []
 | V :: r => V.rn β τ :: Tv.rnL β τ r
theorem Blk.rnL_eq (β τ : Nat → Option Nat) (l : List Blk) : Blk.rnL β τ l = l.map (Blk.rn β τ) := by
 induction l with
 | nil => rfl
 | cons a l ih => simp [Blk.rnL, ih]
theorem Tv.rnL_eq (β τ : Nat → Option Nat) (l : List Tv) : Tv.rnL β τ l = l.map (Tv.rn β τ) := by
 induction l with
 | nil => rfl
 | cons a l ih => simp [Tv.rnL, ih]
def Hp.cut (hp : Hp) (n m : Nat) : Hp := ⟨Blk.rnL (cutF n) (cutF m) (hp.H.take n), Tv.rnL (cutF n) (cutF m) (hp.tk.take m)⟩
def Gh.cut (g : Gh) (n m : Nat) : Gh := ⟨g.r.take n, g.tk.take m, g.I⟩
theorem rnL_length (β τ : Nat → Option Nat) : ∀ l : List D, (D.rnL β τ l).length = l.length
 | [] => rfl
 | d :: l => by simp [D.rnL, rnL_length β τ l]
theorem pairs_fst (β τ : Nat → Option Nat) : ∀ l : List (D × D × Nat), (pairs β τ l).map (·.1) = D.rnL β τ (l.map (·.1))
 | [] => rfl
 | (a, b, n) :: l => by simp [pairs, D.rnL, pairs_fst β τ l]
theorem pairs_snd (β τ : Nat → Option Nat) : ∀ l : List (D × D × Nat), (pairs β τ l).map (·.2.1) = D.rnL β τ (l.map (·.2.1))
 | [] => rfl
 | (a, b, n) :: l => by simp [pairs, D.rnL, pairs_snd β τ l]
theorem pairs_born (β τ : Nat → Option Nat) : ∀ l : List (D × D × Nat), (pairs β τ l).map (·.2.2) = l.map (·.2.2)
 | [] => rfl
 | (a, b, n) :: l => by simp [pairs, pairs_born β τ l]
theorem BlkRel.rn {w : World} {g g' : Gh} {β τ : Nat → Option Nat} {B : Blk} {o : Option Obj} (he : Ren β τ g g') (h : BlkRel w g B o) : BlkRel w g' (B.rn β τ) o := by
 cases B with
 | cells cs =>
   obtain ⟨xs, e, h1, h2, h3⟩ := h
   exact ⟨xs, e, h1, RelL.rn cs he h2, h3⟩
 | gone => trivial
 | map es clock =>
   obtain ⟨ents, h1, h2, h3, h4⟩ := h
   exact ⟨ents, h1, by rw [pairs_fst]; exact RelL.rn _ he h2, by rw [pairs_snd]; exact RelL.rn _ he h3, by rw [pairs_born]; exact h4⟩
 | miter m s seen st =>
   obtain ⟨n, h1, h2⟩ := h
   simp only [Blk.rn]
   cases hm : β m with
   | none => trivial
   | some c => exact ⟨n, he.r m c n hm h1, h2⟩
 | raw x => exact h
 | tcells e cs =>
   obtain ⟨xs, h1, h2, h3⟩ := h
   exact ⟨xs, h1, RelL.rn cs he h2, h3⟩
theorem TvRel.rn {w : World} {g g' : Gh} {β τ : Nat → Option Nat} {T : Tk} {V : Tv} (he : Ren β τ g g') (h : TvRel w g T V) : TvRel w g' T (V.rn β τ) := by
 cases V with
 | per k len => exact ⟨h.1, h.2.1, fun b hb o ho => h.2.2 b hb o (by rw [← he.I]; exact ho)⟩
 | chg k cs =>
   refine ⟨h.1, by rw [rnL_length]; exact h.2.1, h.2.2.1, fun b hb => ⟨fun o ho => (h.2.2.2 b hb).1 o (by rw [← he.I]; exact ho), ?_⟩⟩
   obtain ⟨xs, e, h1, h2⟩ := (h.2.2.2 b hb).2
   exact ⟨xs, e, h1, RelL.rn cs he h2⟩
 | byt e bs => exact ⟨h.1, h.2.1, h.2.2.1, fun b hb => ⟨fun o ho => (h.2.2.2 b hb).1 o (by rw [← he.I]; exact ho), (h.2.2.2 b hb).2⟩⟩
theorem Ren.cut (g : Gh) (n m : Nat) : Ren (cutF n) (cutF m) g (g.cut n m) := by
 refine ⟨rfl, fun b b' k h1 h2 => ?_, fun t t' T h1 h2 => ?_⟩
 ·unfold cutF at h1
  split at h1
  ·rename_i hlt
   cases h1
   show (g.r.take n)[b]? = some k
   rw [List.getElem?_take, if_pos hlt]; exact h2
  ·cases h1
 ·unfold cutF at h1
  split at h1
  ·rename_i hlt
   cases h1
   show (g.tk.take m)[t]? = some T
   rw [List.getElem?_take, if_pos hlt]; exact h2
  ·cases h1
theorem zEu {α : Type} {l : List α} {n i : Nat} {x : α} (h : (l.take n)[i]? = some x) : l[i]? = some x ∧ i < n := by
 rw [List.getElem?_take] at h
 split at h
 ·exact ⟨h, by assumption⟩
 ·cases h
theorem blks_take {l : List Tk} {m n : Nat} (h : n ∈ blks (l.take m)) : n ∈ blks l := by
 obtain ⟨T, h1, h2⟩ := mem_blks.1 h
 exact mem_blks.2 ⟨T, List.mem_of_mem_take h1, h2⟩
theorem Inv.cut {w0 B hp w G} (h : Inv w0 B hp w G) (n m : Nat) (hn : B.r.length ≤ n) (hm : B.tk.length ≤ m) : Inv w0 B (hp.cut n m) w (G.cut n m) := by
 have h0 := h.heap
 have hr := Ren.cut G n m
 have hh : HeapRel w (G.cut n m) (hp.cut n m) := by
  refine ⟨?_, fun b C k hC hk => ?_, fun k hk => h0.lt k (List.mem_of_mem_take hk), h0.nodup.sublist (List.take_sublist _ _), ?_, fun t V T hV hT => ?_, fun T hT => ?_, ?_, fun b o ho => ⟨(h0.imm b o ho).1, fun i hi => ?_⟩⟩
  ·simp [Hp.cut, Gh.cut, Blk.rnL_eq, h0.len]
  ·simp only [Hp.cut, Blk.rnL_eq, List.getElem?_map, Option.map_eq_some_iff] at hC
   obtain ⟨C', h1, rfl⟩ := hC
   obtain ⟨h1, _⟩ := zEu h1
   obtain ⟨h2, _⟩ := zEu hk
   exact (h0.blk b C' k h1 h2).rn hr
  ·simp [Hp.cut, Gh.cut, Tv.rnL_eq, h0.lent]
  ·simp only [Hp.cut, Tv.rnL_eq, List.getElem?_map, Option.map_eq_some_iff] at hV
   obtain ⟨V', h1, rfl⟩ := hV
   obtain ⟨h1, _⟩ := zEu h1
   obtain ⟨h2, _⟩ := zEu hT
   exact (h0.tv t V' T h1 h2).rn hr
  ·exact (h0.tok T (List.mem_of_mem_take hT)).keep (fun _ _ => rfl) fun b _ hb hm => hb (List.mem_of_mem_take hm)
  ·show (blks (G.tk.take m)).Nodup
   unfold blks
   exact h0.tokd.sublist ((List.take_sublist _ _).filterMap _)
  ·obtain ⟨h2, h3⟩ := zEu hi
   have := (h0.imm b o ho).2 i h2
   simp only [Hp.cut, Blk.rnL_eq, List.getElem?_map, List.getElem?_take, if_pos h3, this, Option.map_some]
   rfl
 refine h.ghost hh ⟨h.evo.imm, fun b k hb => ?_, fun t T hT => ?_⟩ (fun k hk => .inl (List.mem_of_mem_take hk)) (fun k hk => .inl (blks_take hk)) (fun b o ho => .inl ho)
 ·show (G.r.take n)[b]? = some k
  have := zAg hb
  rw [List.getElem?_take, if_pos (by omega)]; exact h.evo.ref b k hb
 ·obtain ⟨T', h1, h2⟩ := h.evo.tok t T hT
  refine ⟨T', ?_, h2⟩
  have := zAg hT
  show (G.tk.take m)[t]? = some T'
  rw [List.getElem?_take, if_pos (by omega)]; exact h1
theorem Inv.none {w0 hp w G} {I : Nat → Nat → Prop} (h : Inv w0 ⟨[], [], I⟩ hp w G) : Inv w0 ⟨[], [], I⟩ ⟨[], []⟩ w G.cl := by
 have := h.cut 0 0 (Nat.le_refl _) (Nat.le_refl _)
 simpa [Hp.cut, Gh.cut, Gh.cl, Blk.rnL, Tv.rnL] using this
def St.gc (s : St) (n m : Nat) : St := ⟨D.rnL (cutF n) (cutF m) s.env, [], s.hp.cut n m⟩
theorem rnL_getD (β τ : Nat → Option Nat) : ∀ (l : List D) (i : Nat), (D.rnL β τ l).getD i .u0 = (l.getD i .u0).rn β τ
 | [], i => by simp [D.rnL, D.rn]
 | d :: l, 0 => by simp [D.rnL]
 | d :: l, i + 1 => by simpa [D.rnL] using rnL_getD β τ l i
theorem zFe {C : Cfg} {s : St} (n m : Nat) (hn : C.n0 ≤ n) (hm : C.m0 ≤ m) : Weak C s (s.gc n m) := by
 intro w0 B a w h
 obtain ⟨G, g0, gb, g1, g2, g3, g4⟩ := h
 refine ⟨G.cut n m, g0.cut n m (by rw [gb.1]; exact hn) (by rw [gb.2]; exact hm), gb, g1, g2, by simpa [St.gc, rnL_length] using g3, fun t => ?_⟩
 have := g4 t
 unfold St.slot at *
 split
 ·rename_i i hi
  rw [hi] at this
  simp only [St.gc, rnL_getD]
  exact Rel.rn _ (Ren.cut G n m) this
 ·simp [St.gc, lk, Rel]
theorem weak_new {C : Cfg} {s : St} (i k : Nat) (hk : 0 < k) (chg : Bool) (hs : s.env.getD i .u0 = .lit (.slice none 0 0)) :
 Weak C s ⟨s.env.set i (if chg then .gs s.hp.tk.length 0 else .slice [] (.tok s.hp.tk.length)), [], { s.hp with tk := s.hp.tk ++ [if chg then .chg k [] else .per k 0] }⟩ := by
 intro w0 B a w h
 obtain ⟨G, g0, gb, g1, g2, g3, g4⟩ := h
 obtain ⟨q1, q2⟩ := g0.tokFull (len := 0) (a := none) hk (if chg then .chg k [] else .per k 0) (by cases chg <;> simp)
 refine ⟨_, q1, gb, g1, g2, by simpa using g3, fun t => ?_⟩
 have := g4 t
 unfold St.slot at *
 split
 ·rename_i j hj
  rw [hj] at this
  simp only at this ⊢
  by_cases e : i = j
  ·subst e
   rw [hs] at this
   simp only [Rel] at this
   have hl : i < s.env.length := by
    rcases Nat.lt_or_ge i s.env.length with q | q
    ·exact q
    ·simp [List.getD, List.getElem?_eq_none q] at hs
   have e1 : (s.env.set i (if chg then D.gs s.hp.tk.length 0 else .slice [] (.tok s.hp.tk.length))).getD i .u0 = (if chg then D.gs s.hp.tk.length 0 else .slice [] (.tok s.hp.tk.length)) := by
    simp [List.getD, hl]
   rw [e1, g0.heap.lent]
   cases chg
   ·simp only [Bool.false_eq_true, if_false, Rel]
    refine ⟨⟨0, 0, none⟩, 0, k, [], .inr ⟨this.1, by simp, rfl⟩, by simp, RelL.nil, by simp, ⟨fun _ => rfl, by simp [flat]⟩, ?_⟩
    exact ⟨_, zFf _ _, rfl, by simp, fun _ => by rw [this.1]; rfl⟩
   ·simp only [if_true, Rel]
    exact ⟨none, 0, _, this.1, by simp, zFf _ _, by simp, fun _ => by simp⟩
  ·have e1 : (s.env.set i (if chg then D.gs s.hp.tk.length 0 else .slice [] (.tok s.hp.tk.length))).getD j .u0 = s.env.getD j .u0 := by
    simp [List.getD, List.getElem?_set, e]
   rw [e1]
   exact Rel.evo _ q2 this
 ·simp [lk, Rel]
mutual
def D.fz (b : Nat) (cs : List D) : D → D
 | .ptr c o => if c = b then .ip (cs.drop o) else .ptr c o
 | .sl c k o l cap => if c = b then (if o + l * k ≤ cs.length ∧ l ≤ cap ∧ zAk k (chunk k l (cs.drop o)) = true then .slice (chunk k l (cs.drop o)) (if cap = l then .full else .no) else .u0) else .sl c k o l cap
 | .agg ds => .agg (D.fzL b cs ds)
 | .tup vs => .tup (D.fzL b cs vs)
 | .iface t d => .iface t (D.fz b cs d)
 | .fn f a c => .fn f (D.fzL b cs a) (D.fzL b cs c)
 | .u0 => .u0
 | .skip => .skip
 | .int k n => .int k n
 | .bool v => .bool v
 | .str s => .str s
 | .lit v => .lit v
 | .slice es o => .slice es o
 | .ip ds => .ip ds
 | .gs t n => .gs t n
 | .gp t n o => .gp t n o
 | .mp c => .mp c
def D.fzL (b : Nat) (cs : List D) : List D → List D
 | [] => []
 | d :: ds => D.fz b cs d :: D.fzL b cs ds
end
mutual
def D.fzt (t k n : Nat) (cs : List D) : D → D
 | .gs u m => if u = t then (if m = n then .slice (chunk k n cs) (.tok t) else .u0) else .gs u m
 | .gp u m o => if u = t then (if m = n then .ip (cs.drop o) else .u0) else .gp u m o
 | .agg ds => .agg (D.fztL t k n cs ds)
 | .tup vs => .tup (D.fztL t k n cs vs)
 | .iface u d => .iface u (D.fzt t k n cs d)
 | .fn f a c => .fn f (D.fztL t k n cs a) (D.fztL t k n cs c)
 | .u0 => .u0
 | .skip => .skip
 | .int k n => .int k n
 | .bool v => .bool v
 | .str s => .str s
 | .lit v => .lit v
 | .slice es o => .slice es o
 | .ip ds => .ip ds
 | .ptr b o => .ptr b o
 | .sl c k o l cap => .sl c k o l cap
 | .mp c => .mp c
def D.fztL (t k n : Nat) (cs : List D) : List D → List D
 | [] => []
 | d :: ds => D.fzt t k n cs d :: D.fztL t k n cs ds
end
def Blk.mapD (f : D → D) : Blk → Blk
 | .cells cs => .cells (cs.map f)
 | .gone => .gone
 | .map es c => .map (es.map fun p => (f p.1, f p.2.1, p.2.2)) c
 | .miter m s seen st => .miter m s seen st
 | .raw x => .raw x
 | .tcells e cs => .tcells e (cs.map f)
def Tv.mapD (f : D → D) : Tv → Tv
 | .per k n => .per k n
 | .chg k cs => .chg k (cs.map f)
 | .byt e bs => .byt e bs
theorem zEz {w w' : World} {g g' : Gh} {f : D → D} (hf : ∀ d x, Rel w g d x → Rel w' g' (f d) x) : ∀ {ds : List D} {xs : List Value}, RelL w g ds xs → RelL w' g' (ds.map f) xs
 | [], xs, h => by rw [h.inv_nil]; exact RelL.nil
 | d :: ds, xs, h => by
   obtain ⟨y, ys, rfl, h1, h2⟩ := h.inv
   exact RelL.cons (hf d y h1) (zEz hf h2)
theorem BlkRel.mapD {w w' : World} {g g' : Gh} {f : D → D} (hf : ∀ d x, Rel w g d x → Rel w' g' (f d) x) (hrr : ∀ (b n : Nat), g.r[b]? = some n → g'.r[b]? = some n) {B : Blk} {o : Option Obj} (h : BlkRel w g B o) : BlkRel w' g' (B.mapD f) o := by
 cases B with
 | cells cs =>
   obtain ⟨xs, e, h1, h2, h3⟩ := h
   exact ⟨xs, e, h1, zEz hf h2, h3⟩
 | gone => trivial
 | map es clock =>
   obtain ⟨ents, h1, h2, h3, h4⟩ := h
   refine ⟨ents, h1, ?_, ?_, ?_⟩
   ·have := zEz hf h2
    simpa [List.map_map, Function.comp_def] using this
   ·have := zEz hf h3
    simpa [List.map_map, Function.comp_def] using this
   ·simpa [List.map_map, Function.comp_def] using h4
 | miter m s seen st =>
   obtain ⟨n, h1, h2⟩ := h
   exact ⟨n, hrr m n h1, h2⟩
 | raw x => exact h
 | tcells e cs =>
   obtain ⟨xs, h1, h2, h3⟩ := h
   exact ⟨xs, h1, zEz hf h2, h3⟩
theorem TvRel.mapD {w : World} {g g' : Gh} {f : D → D} (hf : ∀ d x, Rel w g d x → Rel w g' (f d) x) {T : Tk} {V : Tv} (hI : ∀ b, T.blk = some b → ∀ o, g'.I b o → g.I b o) (h : TvRel w g T V) : TvRel w g' T (V.mapD f) := by
 cases V with
 | per k len => exact ⟨h.1, h.2.1, fun b hb o ho => h.2.2 b hb o (hI b hb o ho)⟩
 | chg k cs =>
   refine ⟨h.1, by simpa using h.2.1, h.2.2.1, fun b hb => ⟨fun o ho => (h.2.2.2 b hb).1 o (hI b hb o ho), ?_⟩⟩
   obtain ⟨xs, e, h1, h2⟩ := (h.2.2.2 b hb).2
   exact ⟨xs, e, h1, zEz hf h2⟩
 | byt e bs => exact ⟨h.1, h.2.1, h.2.2.1, fun b hb => ⟨fun o ho => (h.2.2.2 b hb).1 o (hI b hb o ho), (h.2.2.2 b hb).2⟩⟩
mutual
theorem fz_rel {w : World} {g g' : Gh} {b n : Nat} {cs : List D} {xs : List Value} (hr : g'.r = g.r) (ht : g'.tk = g.tk) (he : Evo w g w g') (hb : g.r[b]? = some n) (hc : RelL w g'.cl cs xs) (hA : At w g'.I ⟨n, 0, none⟩ xs) :
 ∀ (d : D) {x : Value}, Rel w g d x → Rel w g' (D.fz b cs d) x
 | .ptr c o, x, h => by
   simp only [Rel, D.fz] at h ⊢
   obtain ⟨k, h1, h2⟩ := h
   by_cases e : c = b
   ·subst e
    rw [hb] at h1; cases h1
    simp only [if_true, Rel]
    refine ⟨_, xs.drop o, h2, hc.drop o, ?_⟩
    have := hA.drop o
    simpa using this
   ·simp only [e, if_false, Rel]; exact ⟨k, by rw [hr]; exact h1, h2⟩
 | .sl c k o l cap, x, h => by
   simp only [Rel, D.fz] at h ⊢
   obtain ⟨m, o', h1, h2, h3⟩ := h
   by_cases e : c = b
   ·subst e
    rw [hb] at h1; cases h1
    simp only [if_true]
    split
    ·rename_i hh
     obtain ⟨c1, c2, c3⟩ := hh
     have hl := hc.length
     have ho : ∀ y ∈ xs, oneC y := fun y hy => by
      obtain ⟨j, hj⟩ := List.mem_iff_getElem?.1 hy
      exact (hA.2 j y hj).2.2
     obtain ⟨q1, q2, q3⟩ := zEq (w := w) (g := g'.cl) (k := k) l (cs.drop o) (xs.drop o) (hc.drop o) (fun y hy => ho y (List.mem_of_mem_drop hy)) (by simp; omega)
     simp only [Rel]
     refine ⟨⟨n, o', none⟩, cap, k, _, .inl (by rw [zAn]; exact h2), by rw [zAn]; exact c2, q1, q2, ?_, ?_⟩
     ·refine ⟨fun _ => rfl, fun j y hj => ?_⟩
      rw [q3] at hj
      obtain ⟨hj, hlt⟩ := zEu hj
      rw [List.getElem?_drop] at hj
      have hcap : 0 < cap := by
       rcases Nat.eq_zero_or_pos l with q | q
       ·subst q; simp at hlt
       ·omega
      have := h3 hcap
      subst this
      have := hA.2 (o' + j) y hj
      simpa using this
     ·by_cases e : cap = l
      ·simp only [e, if_true]; show _ = _; rw [zAn]
      ·simp only [e, if_false]; trivial
    ·simp [Rel]
   ·simp only [e, if_false, Rel]; exact ⟨m, o', by rw [hr]; exact h1, h2, h3⟩
 | .agg ds, x, h => by
   simp only [Rel, D.fz] at h ⊢
   obtain ⟨ys, h1, h2, h3⟩ := h
   exact ⟨ys, h1, fzL_rel hr ht he hb hc hA ds h2, h3⟩
 | .tup ds, x, h => by
   simp only [Rel, D.fz] at h ⊢
   obtain ⟨ys, h1, h2⟩ := h
   exact ⟨ys, h1, fzL_rel hr ht he hb hc hA ds h2⟩
 | .iface t d, x, h => by
   simp only [Rel, D.fz] at h ⊢
   obtain ⟨y, h1, h2⟩ := h
   exact ⟨y, h1, fz_rel hr ht he hb hc hA d h2⟩
 | .fn f a c, x, h => by
   simp only [Rel, D.fz] at h ⊢
   obtain ⟨ys, zs, h1, h2, h3⟩ := h
   exact ⟨ys, zs, h1, fzL_rel hr ht he hb hc hA a h2, fzL_rel hr ht he hb hc hA c h3⟩
 | .u0, x, h => by simp [Rel, D.fz]
 | .skip, x, h => by simpa [Rel, D.fz] using h
 | .int _ _, x, h => by simpa [Rel, D.fz] using h
 | .bool _, x, h => by simpa [Rel, D.fz] using h
 | .str _, x, h => by simpa [Rel, D.fz] using h
 | .lit _, x, h => by simpa [Rel, D.fz] using h
 | .slice es o, x, h => by simpa [D.fz] using Rel.evo _ he h
 | .ip ds, x, h => by simpa [D.fz] using Rel.evo _ he h
 | .gs t m, x, h => by simpa [D.fz] using Rel.evo _ he h
 | .gp t m o, x, h => by simpa [D.fz] using Rel.evo _ he h
 | .mp c, x, h => by simpa [D.fz] using Rel.evo _ he h
theorem fzL_rel {w : World} {g g' : Gh} {b n : Nat} {cs : List D} {xs : List Value} (hr : g'.r = g.r) (ht : g'.tk = g.tk) (he : Evo w g w g') (hb : g.r[b]? = some n) (hc : RelL w g'.cl cs xs) (hA : At w g'.I ⟨n, 0, none⟩ xs) :
 ∀ (ds : List D) {ys : List Value}, RelL w g ds ys → RelL w g' (D.fzL b cs ds) ys
 | [], ys, h => by rw [h.inv_nil]; simp [D.fzL, RelL.nil]
 | d :: ds, ys, h => by
   obtain ⟨z, zs, rfl, h1, h2⟩ := h.inv
   simp only [D.fzL]
   exact RelL.cons (fz_rel hr ht he hb hc hA d h1) (fzL_rel hr ht he hb hc hA ds h2)
end
def St.frz (s : St) (b : Nat) (cs : List D) : St := ⟨s.env.map (D.fz b cs), [], ⟨(s.hp.H.map (Blk.mapD (D.fz b cs))).set b .gone, s.hp.tk.map (Tv.mapD (D.fz b cs))⟩⟩
theorem weak_frz {C : Cfg} {s : St} (b : Nat) (cs : List D) (hb : s.hp.H[b]? = some (.cells cs)) (hn : C.n0 ≤ b) (hc : D.cL cs = true) : Weak C s (s.frz b (D.erL cs)) := by
 intro w0 B a w h
 obtain ⟨G, g0, gb, g1, g2, g3, g4⟩ := h
 have h0 := g0.heap
 obtain ⟨n, hbn⟩ : ∃ n, G.r[b]? = some n := ⟨_, List.getElem?_eq_getElem (by rw [← h0.len]; exact zAg hb)⟩
 obtain ⟨xs, e, h1, h2, h3⟩ := h0.blk b _ n hb hbn
 have hnm := List.mem_of_getElem? hbn
 have hnew : w0.heap.size ≤ n ∨ n ∈ blks B.tk := by
  rcases g0.newr n hnm with q | q
  ·exfalso
   obtain ⟨j, hj⟩ := List.mem_iff_getElem?.1 q
   have := zDk h0.nodup hbn (g0.evo.ref j n hj)
   have := zAg hj
   omega
  ·exact .inl q
 have he : Evo w G w (G.fix n xs.length) := ⟨fun c o hi => ⟨.inl hi, rfl⟩, fun _ _ h => h, fun _ T h => ⟨T, h, rfl, .inl rfl⟩⟩
 have hcl : RelL w (G.fix n xs.length).cl (D.erL cs) xs := RelL.evo _ he.cl (RelL.closed _ hc h2)
 have hA : At w (G.fix n xs.length).I ⟨n, 0, none⟩ xs := by
  refine ⟨fun _ => rfl, fun j y hj => ⟨?_, .inr ⟨rfl, by simpa using zAg hj⟩, h3 y (List.mem_of_getElem? hj)⟩⟩
  rw [Nat.zero_add, zCo h1]; simpa using hj
 have hf : ∀ d x, Rel w G d x → Rel w (G.fix n xs.length) (D.fz b (D.erL cs) d) x := fun d x hd => fz_rel (g := G) (g' := G.fix n xs.length) rfl rfl he hbn hcl hA d hd
 have hnt : ∀ T ∈ G.tk, T.blk ≠ some n := fun T hT e => ((h0.tok T hT).2.2 n e).2.1 hnm
 have hh : HeapRel w (G.fix n xs.length) (s.frz b (D.erL cs)).hp := by
  refine ⟨by simp [St.frz, Gh.fix, h0.len], fun c C k hC hk => ?_, h0.lt, h0.nodup, by simp [St.frz, Gh.fix, h0.lent], fun t V T hV hT => ?_, fun T hT => (h0.tok T hT).keep (fun _ _ => rfl) fun _ _ hb => hb, h0.tokd, fun c o ho => ?_⟩
  ·simp only [St.frz, List.getElem?_set, List.getElem?_map, List.length_map] at hC
   by_cases e : b = c
   ·subst e
    simp [zAg hb] at hC
    subst hC; trivial
   ·rw [if_neg e] at hC
    simp only [Option.map_eq_some_iff] at hC
    obtain ⟨C', q1, rfl⟩ := hC
    exact (h0.blk c C' k q1 hk).mapD hf fun _ _ h => h
  ·simp only [St.frz, List.getElem?_map, Option.map_eq_some_iff] at hV
   obtain ⟨V', q1, rfl⟩ := hV
   refine (h0.tv t V' T q1 hT).mapD hf fun c hc o ho => ?_
   rcases ho with q | q
   ·exact q
   ·exact absurd (q.1 ▸ hc) (hnt T (List.mem_of_getElem? hT))
  ·rcases ho with q | ⟨rfl, q⟩
   ·refine ⟨(h0.imm c o q).1, fun i hi => ?_⟩
    have := (h0.imm c o q).2 i hi
    simp only [St.frz, List.getElem?_set, List.getElem?_map, List.length_map]
    split
    ·simp [zAg hb]
    ·rw [this]; rfl
   ·refine ⟨h0.lt c hnm, fun i hi => ?_⟩
    have := zDk h0.nodup hbn hi
    subst this
    simp [St.frz, List.getElem?_set, zAg hb]
 have hinv : Inv w0 B (s.frz b (D.erL cs)).hp w (G.fix n xs.length) := by
  refine g0.ghost hh (g0.evo.trans he) (fun k hk => .inl hk) (fun k hk => .inl hk) fun c o ho => ?_
  rcases ho with q | ⟨rfl, _⟩
  ·exact .inl q
  ·exact .inr hnew
 refine ⟨_, hinv, gb, g1, g2, by simpa [St.frz] using g3, fun t => ?_⟩
 have := g4 t
 unfold St.slot at *
 split
 ·rename_i i hi
  rw [hi] at this
  have e1 : (s.frz b (D.erL cs)).env.getD i .u0 = D.fz b (D.erL cs) (s.env.getD i .u0) := by
   simp only [St.frz, List.getD, List.getElem?_map]
   cases s.env[i]? <;> simp [D.fz]
  simp only [e1]
  exact hf _ _ this
 ·simp [St.frz, lk, Rel]
mutual
theorem fzt_rel {w : World} {g g' : Gh} {t : Nat} {T : Tk} {cs : List D} {xs : List Value} (hr : g'.r = g.r) (htk : g'.tk = g.tk) (he : Evo w g w g') (hT : g.tk[t]? = some T) (hk : 0 < T.k) (hc : RelL w g'.cl cs xs) (hl : cs.length = T.len * T.k)
 (ho : ∀ y ∈ xs, oneC y) (hE : zAk T.k (chunk T.k T.len cs) = true) (hle : T.len ≤ T.cap) (hA : (T.addr = none ∧ T.len = 0 ∧ T.cap = 0) ∨ ∃ b, T.blk = some b ∧ T.addr = some ⟨b, 0, none⟩ ∧ At w g'.I ⟨b, 0, none⟩ xs) :
 ∀ (d : D) {x : Value}, Rel w g d x → Rel w g' (D.fzt t T.k T.len cs d) x
 | .gs u m, x, h => by
   simp only [Rel, D.fzt] at h ⊢
   by_cases e : u = t
   ·subst e
    simp only [if_true]
    by_cases em : m = T.len
    ·subst em
     obtain ⟨a, cap, T', h1, h2, h3, h4, h5⟩ := h
     rw [hT] at h3; cases h3
     obtain ⟨rfl, rfl, _⟩ := h5 rfl
     simp only [if_true, Rel]
     obtain ⟨q1, q2, q3⟩ := zEq (w := w) (g := g'.cl) (k := T.k) T.len cs xs hc ho (by rw [hc.length, hl]; exact Nat.le_refl _)
     have hxl : xs.length = T.len * T.k := by rw [hc.length, hl]
     rw [← hxl, List.take_length] at q3
     rcases hA with ⟨ha, h0, h0'⟩ | ⟨b, hb, ha, hA⟩
     ·refine ⟨⟨0, 0, none⟩, T.cap, T.k, _, .inr ⟨by rw [h1, ha, h0, h0'], ?_, h0'⟩, by rw [zAn]; exact hle, q1, q2, ⟨fun _ => rfl, fun j y hj => ?_⟩, T, by rw [htk]; exact hT, rfl, by rw [zAn]; exact Nat.le_refl _, fun _ => by rw [zAn]; exact h1⟩
      ·rw [h0]; rfl
      ·rw [q3] at hj
       have := zAg hj
       rw [hxl, h0] at this; simp at this
     ·refine ⟨⟨b, 0, none⟩, T.cap, T.k, _, .inl (by rw [zAn, h1, ha]), by rw [zAn]; exact hle, q1, q2, by rw [q3]; exact hA, T, by rw [htk]; exact hT, rfl, by rw [zAn]; exact Nat.le_refl _, fun _ => by rw [zAn]; exact h1⟩
    ·simp [em, Rel]
   ·simp only [e, if_false]
    have : Rel w g (.gs u m) x := by simp only [Rel]; exact h
    exact Rel.evo _ he this
 | .gp u m o, x, h => by
   simp only [Rel, D.fzt] at h ⊢
   by_cases e : u = t
   ·subst e
    simp only [if_true]
    by_cases em : m = T.len
    ·subst em
     obtain ⟨a, T', h1, h3, h4, h5⟩ := h
     rw [hT] at h3; cases h3
     obtain ⟨b, hb, rfl⟩ := h5 rfl
     simp only [if_true, Rel]
     rcases hA with ⟨ha, h0, h0'⟩ | ⟨b', hb', ha, hA⟩
     ·have hx0 : xs = [] := List.eq_nil_of_length_eq_zero (by rw [hc.length, hl, h0]; simp)
      subst hx0
      refine ⟨_, [], h1, ?_, fun _ => rfl, by simp⟩
      have : cs = [] := List.eq_nil_of_length_eq_zero (by rw [hl, h0]; simp)
      subst this
      simpa using RelL.nil
     ·rw [hb] at hb'; cases hb'
      refine ⟨_, xs.drop o, h1, hc.drop o, ?_⟩
      have := hA.drop o
      simpa using this
    ·simp [em, Rel]
   ·simp only [e, if_false]
    have : Rel w g (.gp u m o) x := by simp only [Rel]; exact h
    exact Rel.evo _ he this
 | .agg ds, x, h => by
   simp only [Rel, D.fzt] at h ⊢
   obtain ⟨ys, h1, h2, h3⟩ := h
   exact ⟨ys, h1, zF1 hr htk he hT hk hc hl ho hE hle hA ds h2, h3⟩
 | .tup ds, x, h => by
   simp only [Rel, D.fzt] at h ⊢
   obtain ⟨ys, h1, h2⟩ := h
   exact ⟨ys, h1, zF1 hr htk he hT hk hc hl ho hE hle hA ds h2⟩
 | .iface t d, x, h => by
   simp only [Rel, D.fzt] at h ⊢
   obtain ⟨y, h1, h2⟩ := h
   exact ⟨y, h1, fzt_rel hr htk he hT hk hc hl ho hE hle hA d h2⟩
 | .fn f a c, x, h => by
   simp only [Rel, D.fzt] at h ⊢
   obtain ⟨ys, zs, h1, h2, h3⟩ := h
   exact ⟨ys, zs, h1, zF1 hr htk he hT hk hc hl ho hE hle hA a h2, zF1 hr htk he hT hk hc hl ho hE hle hA c h3⟩
 | .u0, x, h => by simp [Rel, D.fzt]
 | .skip, x, h => by simpa [Rel, D.fzt] using h
 | .int _ _, x, h => by simpa [Rel, D.fzt] using h
 | .bool _, x, h => by simpa [Rel, D.fzt] using h
 | .str _, x, h => by simpa [Rel, D.fzt] using h
 | .lit _, x, h => by simpa [Rel, D.fzt] using h
 | .slice es o, x, h => by simpa [D.fzt] using Rel.evo _ he h
 | .ip ds, x, h => by simpa [D.fzt] using Rel.evo _ he h
 | .ptr b o, x, h => by simpa [D.fzt] using Rel.evo _ he h
 | .sl c k o l cap, x, h => by simpa [D.fzt] using Rel.evo _ he h
 | .mp c, x, h => by simpa [D.fzt] using Rel.evo _ he h
theorem zF1 {w : World} {g g' : Gh} {t : Nat} {T : Tk} {cs : List D} {xs : List Value} (hr : g'.r = g.r) (htk : g'.tk = g.tk) (he : Evo w g w g') (hT : g.tk[t]? = some T) (hk : 0 < T.k) (hc : RelL w g'.cl cs xs) (hl : cs.length = T.len * T.k)
 (ho : ∀ y ∈ xs, oneC y) (hE : zAk T.k (chunk T.k T.len cs) = true) (hle : T.len ≤ T.cap) (hA : (T.addr = none ∧ T.len = 0 ∧ T.cap = 0) ∨ ∃ b, T.blk = some b ∧ T.addr = some ⟨b, 0, none⟩ ∧ At w g'.I ⟨b, 0, none⟩ xs) :
 ∀ (ds : List D) {ys : List Value}, RelL w g ds ys → RelL w g' (D.fztL t T.k T.len cs ds) ys
 | [], ys, h => by rw [h.inv_nil]; simp [D.fztL, RelL.nil]
 | d :: ds, ys, h => by
   obtain ⟨z, zs, rfl, h1, h2⟩ := h.inv
   simp only [D.fztL]
   exact RelL.cons (fzt_rel hr htk he hT hk hc hl ho hE hle hA d h1) (zF1 hr htk he hT hk hc hl ho hE hle hA ds h2)
end
end GoV
end
section
set_option linter.unusedSimpArgs false
namespace GoV
open Go
inductive RR where
 | slot (o : Opd)
 | cell (o : Opd) (ag : Bool) (n : Nat)
def resR (C : Cfg) : ResultVar → Option RR
 | .tmp t => (resO C (.tmp t)).map .slot
 | .cell t ty =>
   match resO C (.tmp t), szOf C.P ty, C.P.underlying ty with
   | some o, some n, some d => some (.cell o (zBm d) (if zBm d then n else 1))
   | _, _, _ => none
def resRs (C : Cfg) : List ResultVar → Option (List RR)
 | [] => some []
 | x :: xs => match resR C x, resRs C xs with
   | some y, some ys => some (y :: ys)
   | _, _ => none
def rrWp (r : RR) (s : St) (K : D → Prop) : Prop :=
 match r with
 | .slot o => K (s.get o)
 | .cell o ag n =>
   match s.get o with
   | .ptr b off => ∃ cs, s.hp.H[b]? = some (.cells cs) ∧ off + n ≤ cs.length ∧ K (if ag then .agg ((cs.drop off).take n) else cs.getD off .u0)
   | _ => False
def rrsWp : List RR → St → (List D → Prop) → Prop
 | [], _, K => K []
 | r :: rs, s, K => rrWp r s fun d => rrsWp rs s fun ds => K (d :: ds)
def zAl : List D → D
 | [d] => d
 | ds => .tup ds
def resV (tmps : Array Value) : ResultVar → Sem Value
 | .tmp t => pure (tmps.getD t Go.undef)
 | .cell t ty => do loadVar ty (← asAddr (tmps.getD t Go.undef))
theorem rr_run {C : Cfg} {w0 B G} {s : St} {a : Act} {w : World} (hi : Inv w0 B s.hp w G) (hs : ∀ t, Rel w G (s.slot C.pers t) (a.tmps.getD t Go.undef))
 {x : ResultVar} {r : RR} (hr : resR C x = some r) {K : D → Prop} (h : rrWp r s K) :
 ∃ d v, K d ∧ Rel w G d v ∧ (resV a.tmps x).run C.P w = .ok v w := by
 cases x with
 | tmp t =>
   simp only [resR] at hr
   cases ho : resO C (.tmp t) with
   | none => simp [ho] at hr
   | some o =>
     simp [ho] at hr; subst hr
     exact ⟨_, _, h, zEy hs ho, rfl⟩
 | cell t ty =>
   simp only [resR] at hr
   cases ho : resO C (.tmp t) with
   | none => simp [ho] at hr
   | some o =>
     cases hz : szOf C.P ty with
     | none => simp [ho, hz] at hr
     | some n =>
       cases hu : C.P.underlying ty with
       | none => simp [ho, hz, hu] at hr
       | some d =>
         simp [ho, hz, hu] at hr; subst hr
         have hv := zEy hs ho
         simp only [rrWp] at h
         split at h <;> first
          | exact h.elim
          | skip
         rename_i b off hb
         obtain ⟨cs, h1, h2, h⟩ := h
         rw [hb] at hv
         simp only [Rel] at hv
         obtain ⟨nb, hn, hx⟩ := hv
         have hx' : a.tmps.getD t Go.undef = .pointer (some ⟨nb, off, none⟩) := hx
         obtain ⟨xs, e, _, g2, g3, g4⟩ := blk_cells hi h1 hn
         have hlen := g2.length
         have conv : ∀ v, (Instr.loadAt ty (.pointer (some ⟨nb, off, none⟩))).run C.P w = .ok v w → (loadVar ty ⟨nb, off, none⟩).run C.P w = .ok v w := by
          intro v hv; simpa [Instr.loadAt, Instr.sureAddr] using hv
         cases hd : zBm d <;> simp only [hd, if_true, if_false, Bool.false_eq_true] at h h2
         ·have hlt : off < xs.length := by omega
          refine ⟨_, _, h, g2.getD (List.getElem?_eq_getElem hlt), ?_⟩
          simp [resV, hx', asAddr, conv _ (zCi (P := C.P) hu hd xs[off] nb off (g4 off _ (List.getElem?_eq_getElem hlt)))]
         ·refine ⟨_, .agg ((xs.drop off).take n).toArray, h, ?_, ?_⟩
          ·simp only [Rel]
           exact ⟨_, rfl, (g2.drop off).take n, fun y hy => g3 y (List.mem_of_mem_drop (List.mem_of_mem_take hy))⟩
          ·have hlen2 : ((xs.drop off).take n).length = n := by simp; omega
           have := conv _ (zCh (P := C.P) (w := w) hu hd ((xs.drop off).take n) (by rw [hlen2]; exact hz) nb off (fun j y hj => by
            rw [List.getElem?_take] at hj
            split at hj
            ·rw [List.getElem?_drop] at hj; exact g4 _ _ hj
            ·cases hj))
           simp [resV, hx', asAddr, this]
theorem rrs_run {C : Cfg} {w0 B G} {s : St} {a : Act} {w : World} (hi : Inv w0 B s.hp w G) (hs : ∀ t, Rel w G (s.slot C.pers t) (a.tmps.getD t Go.undef)) :
 ∀ {xs : List ResultVar} {rs : List RR} {K : List D → Prop}, resRs C xs = some rs → rrsWp rs s K →
 ∃ ds vs, K ds ∧ RelL w G ds vs ∧ (xs.mapM (resV a.tmps)).run C.P w = .ok vs w
 | [], rs, K, hr, h => by
   simp [resRs] at hr; subst hr
   exact ⟨[], [], h, RelL.nil, by simp⟩
 | x :: xs, rs, K, hr, h => by
   simp only [resRs] at hr
   cases h1 : resR C x with
   | none => simp [h1] at hr
   | some r =>
     cases h2 : resRs C xs with
     | none => simp [h1, h2] at hr
     | some rs' =>
       simp [h1, h2] at hr; subst hr
       obtain ⟨d, v, k1, k2, k3⟩ := rr_run (a := a) hi hs h1 h
       obtain ⟨ds, vs, k4, k5, k6⟩ := rrs_run (a := a) hi hs h2 k1
       refine ⟨d :: ds, v :: vs, k4, RelL.cons k2 k5, ?_⟩
       rw [List.mapM_cons, Sem.run_bind]
       simp only [k3, Result.andThen_ok, Sem.run_bind, k6, Sem.run_pure]
theorem zCb {C : Cfg} {fn : Func} {w0 B G} {s : St} {a : Act} {w : World} (hi : Inv w0 B s.hp w G) (hs : ∀ t, Rel w G (s.slot C.pers t) (a.tmps.getD t Go.undef))
 {rs : List RR} {K : List D → Prop} (hr : resRs C fn.results.toList = some rs) (h : rrsWp rs s K) :
 ∃ ds v, K ds ∧ Rel w G (zAl ds) v ∧ (results fn a.tmps).run C.P w = .ok v w := by
 obtain ⟨ds, vs, h1, h2, h3⟩ := rrs_run (a := a) hi hs hr h
 have hrun : (fn.results.mapM (resV a.tmps)).run C.P w = .ok vs.toArray w := by
  rw [← Array.toArray_toList (xs := fn.results), List.mapM_toArray, Sem.run_map, h3]
  rfl
 refine ⟨ds, if h : vs.toArray.size = 1 then vs.toArray[0] else .tuple vs.toArray, h1, ?_, ?_⟩
 ·match ds, vs, h2 with
  | [], vs, h2 => rw [h2.inv_nil]; simpa [zAl, Rel] using RelL.nil
  | [d], vs, h2 =>
    obtain ⟨y, ys, rfl, g1, g2⟩ := h2.inv
    rw [g2.inv_nil]; simpa [zAl] using g1
  | d :: e :: l, vs, h2 =>
    have hl := h2.length
    have : vs.toArray.size ≠ 1 := by simp at hl ⊢; omega
    rw [dif_neg this]
    simp only [zAl, Rel]
    exact ⟨vs, rfl, h2⟩
 ·change ((fn.results.mapM (resV a.tmps)) >>= fun vs => (pure (if h : vs.size = 1 then vs[0] else .tuple vs) : Sem Value)).run C.P w = _
  rw [Sem.run_bind, hrun]
  rfl
def St.init (C : Cfg) (args : List D) (hp : Hp) : St := { env := args ++ List.replicate (C.pers.length - args.length) .u0, scr := [], hp := hp }
theorem zD0 {C : Cfg} {fn : Func} (hnt : fn.ntmps = C.nt) {args : List D} {hp : Hp} (hpl : C.pers.take args.length = List.range args.length) (hlt : args.length ≤ C.nt) (hn0 : C.n0 = hp.H.length) (hm0 : C.m0 = hp.tk.length)
 (hd0 : C.dfs = []) {w : World} {g : Gh} {xs : List Value} (hH : HeapRel w g hp) (hargs : RelL w g args xs) :
 Sim C w g (St.init C args hp) { tmps := xs.toArray ++ Array.replicate (fn.ntmps - xs.toArray.size) Go.undef, defers := [] } w := by
 have hal : args.length ≤ C.pers.length := by
  have := congrArg List.length hpl
  simp at this; omega
 have hxl := hargs.length
 have hinv : Inv w g hp w g := ⟨hH, Evo.refl _ _, Keeps.refl _ _, fun n hn => .inl hn, fun n hn => .inl hn, fun b o hb => .inl hb⟩
 have hsim : Sim C w g (St.init C args hp) { tmps := xs.toArray ++ Array.replicate (fn.ntmps - xs.toArray.size) Go.undef, defers := [] } w := by
  refine ⟨g, hinv, ⟨by rw [hn0, hH.len], by rw [hm0, hH.lent]⟩, by simp; omega, hd0.symm, by simp [St.init]; omega, fun t => ?_⟩
  unfold St.slot St.init
  split
  ·rename_i i hi
   have hti := zB5 hi
   by_cases hlt2 : i < args.length
   ·have ht : t = i := by
     have h1 : (C.pers.take args.length)[i]? = some t := by rw [List.getElem?_take, if_pos hlt2]; exact hti
     rw [hpl] at h1
     simp [List.getElem?_range, hlt2] at h1
     exact h1.symm
    subst ht
    obtain ⟨x, hx1, hx2⟩ := hargs.get (List.getElem?_eq_getElem hlt2)
    have e1 : (args ++ List.replicate (C.pers.length - args.length) D.u0).getD t .u0 = args[t] := by
     simp [List.getD, List.getElem?_append_left hlt2, hlt2]
    have e2 : (xs.toArray ++ Array.replicate (fn.ntmps - xs.toArray.size) Go.undef).getD t Go.undef = x := by
     have hlx : t < xs.length := by omega
     rw [Array.getD_eq_getD_getElem?, Array.getElem?_append_left (by simpa using hlx)]
     simp [hx1]
    rw [e1, e2]; exact hx2
   ·have e1 : (args ++ List.replicate (C.pers.length - args.length) D.u0).getD i .u0 = .u0 := by
     simp only [List.getD, List.getElem?_append_right (Nat.le_of_not_lt hlt2), List.getElem?_replicate]
     split <;> rfl
    rw [e1]; simp [Rel]
  ·simp [lk, Rel]
 exact hsim
theorem body_spec {C : Cfg} {f : FuncId} {fn : Func} {c : Code} {rc : RC} {rs : List RR} (hf : C.P.funcs[f]? = some fn) (hb : fn.body = some c) (hnt : fn.ntmps = C.nt) (hrc : zAe C c = some rc) (hrs : resRs C fn.results.toList = some rs)
 {args : List D} {hp : Hp} {R : D → Hp → Prop} (hpl : C.pers.take args.length = List.range args.length) (hlt : args.length ≤ C.nt) (hn0 : C.n0 = hp.H.length) (hm0 : C.m0 = hp.tk.length)
 (h : SWp C rc (fun e s => (match e with | .exit _ => False | _ => True) ∧ ∃ s1, Weak C s s1 ∧ rrsWp rs s1 fun ds => R (zAl ds) s1.hp) (St.init C args hp)) (hd0 : C.dfs = []) (hpan : ∀ d hp, ¬ C.M.pan d hp) {w : World} {g : Gh} {xs : List Value} (hA : C.M.start w g) (hH : HeapRel w g hp) (hargs : RelL w g args xs) :
 Calls C.M.P f xs.toArray w (Post w g R) := by
 refine calls_of_wp hf hb ((wpIn_wide (n := 0)).1 ?_)
 have hsim := zD0 hnt hpl hlt hn0 hm0 hd0 hH hargs
 refine wpIn_mono (h.run c hrc w g hA _ w hsim none) fun e a' w' hl => ?_
 have fin : ∀ s, Sim C w g s a' w' → (∃ s1, Weak C s s1 ∧ rrsWp rs s1 fun ds => R (zAl ds) s1.hp) →
  a'.defers = [] ∧ ∃ v, (results fn a'.tmps).run C.P w' = .ok v w' ∧ Post w g R (.returned v) w' := by
  intro s hs hrr
  obtain ⟨s1, hw, hrr⟩ := hrr
  obtain ⟨G, g0, gb, g1, g2, g3, g4⟩ := hw _ _ _ _ hs
  obtain ⟨ds, v, k1, k4, k5⟩ := zCb (a := a') (fn := fn) g0 g4 hrs hrr
  exact ⟨g2.trans hd0, v, k5, v, _, _, G, rfl, k1, g0, k4⟩
 cases e <;> simp only [Lift, bodyPost] at hl ⊢
 case panic ch => obtain ⟨_, _, _, _, _, _, k, _⟩ := hl; exact absurd k (hpan _ _)
 ·obtain ⟨s, h1, _, h2⟩ := hl; exact fin s h1 h2
 ·obtain ⟨s, h1, h3, h2⟩ := hl; exact h3.elim
 ·obtain ⟨s, h1, _, h2⟩ := hl; exact fin s h1 h2
theorem eff_of_body {C : Cfg} {f : FuncId} {fn : Func} {c : Code} {rc : RC} {rs : List RR} (hf : C.P.funcs[f]? = some fn) (hb : fn.body = some c) (hnt : fn.ntmps = C.nt) (hrc : zAe C c = some rc) (hrs : resRs C fn.results.toList = some rs)
 {args : List D} {hp : Hp} {R : D → Hp → Prop} (hname : (fn.name == "runtime.NumGoroutine") = false) (hpl : C.pers.take args.length = List.range args.length) (hlt : args.length ≤ C.nt) (hn0 : C.n0 = hp.H.length) (hm0 : C.m0 = hp.tk.length)
 (h : SWp C rc (fun e s => (match e with | .exit _ => False | _ => True) ∧ ∃ s1, Weak C s s1 ∧ rrsWp rs s1 fun ds => R (zAl ds) s1.hp) (St.init C args hp)) (hd0 : C.dfs = [] := by rfl) (hbs : ∀ w g, C.M.base w g := by exact fun _ _ => trivial) (hpan : ∀ d hp, ¬ C.M.pan d hp := by exact fun _ _ h => h) :
 Eff C.M f args hp R :=
 ⟨⟨fn, hf, by simp [hb], hname⟩, fun w g xs hA hH hargs => body_spec hf hb hnt hrc hrs hpl hlt hn0 hm0 h hd0 hpan ⟨hA, hbs _ _⟩ hH hargs⟩
theorem zDj {M : Mod} {f : FuncId} {args : List D} {d : D} (h : Eff M f args ⟨[], []⟩ fun d' _ => d'.closed = true ∧ d'.er = d) : Pur M f args d := by
 refine ⟨h.1, fun w g xs hA hH hargs => (h.2 w g xs hA hH hargs).mono fun e w' hp => ?_⟩
 obtain ⟨v, d', hp', G, rfl, ⟨h1, h2⟩, h3, h4⟩ := hp
 have hg : g = ⟨[], [], g.I⟩ := by
  obtain ⟨r, tk, I⟩ := g
  have e1 : r = [] := List.eq_nil_of_length_eq_zero hH.len.symm
  have e2 : tk = [] := List.eq_nil_of_length_eq_zero hH.lent.symm
  subst e1; subst e2; rfl
 rw [hg] at h3 ⊢
 refine ⟨v, d, ⟨[], []⟩, G.cl, rfl, ⟨rfl, rfl⟩, h3.none, ?_⟩
 rw [← h2]
 exact Rel.closed _ h1 h4
theorem pur_of_bodyW {C : Cfg} {f : FuncId} {fn : Func} {c : Code} {rc : RC} {rs : List RR} (hf : C.P.funcs[f]? = some fn) (hb : fn.body = some c) (hnt : fn.ntmps = C.nt) (hrc : zAe C c = some rc) (hrs : resRs C fn.results.toList = some rs)
 {args : List D} {d : D} (hname : (fn.name == "runtime.NumGoroutine") = false) (hpl : C.pers.take args.length = List.range args.length) (hlt : args.length ≤ C.nt) (hn0 : C.n0 = 0) (hm0 : C.m0 = 0)
 (h : SWp C rc (fun e s => (match e with | .exit _ => False | _ => True) ∧ ∃ s1, Weak C s s1 ∧ rrsWp rs s1 fun ds => D.closed (zAl ds) = true ∧ (zAl ds).er = d) (St.init C args ⟨[], []⟩)) (hd0 : C.dfs = [] := by rfl) (hbs : ∀ w g, C.M.base w g := by exact fun _ _ => trivial) (hpan : ∀ d hp, ¬ C.M.pan d hp := by exact fun _ _ h => h) : Pur C.M f args d :=
 zDj (eff_of_body hf hb hnt hrc hrs hname hpl hlt hn0 hm0 h hd0 hbs hpan)
def posF (l : List Nat) (b : Nat) : Option Nat := idx b l
def bakF (l : List Nat) (n : Nat) (i : Nat) : Option Nat := if i < l.length then l[i]? else some (n + (i - l.length))
def Gh.sel (g : Gh) (bl tl : List Nat) : Gh := ⟨bl.filterMap (g.r[·]?), tl.filterMap (g.tk[·]?), g.I⟩
def Hp.sel (hp : Hp) (bl tl : List Nat) : Hp := ⟨Blk.rnL (posF bl) (posF tl) (bl.map (hp.H.getD · .gone)), Tv.rnL (posF bl) (posF tl) (tl.map (hp.tk.getD · (.per 0 0)))⟩
def putAt {α : Type} : List Nat → List α → List α → List α
 | b :: bl, x :: xs, H => putAt bl xs (H.set b x)
 | _, _, H => H
def Hp.back (hp : Hp) (bl tl : List Nat) (hp1 : Hp) : Hp :=
 ⟨putAt bl (Blk.rnL (bakF bl hp.H.length) (bakF tl hp.tk.length) (hp1.H.take bl.length)) hp.H ++ Blk.rnL (bakF bl hp.H.length) (bakF tl hp.tk.length) (hp1.H.drop bl.length),
  putAt tl (Tv.rnL (bakF bl hp.H.length) (bakF tl hp.tk.length) (hp1.tk.take tl.length)) hp.tk ++ Tv.rnL (bakF bl hp.H.length) (bakF tl hp.tk.length) (hp1.tk.drop tl.length)⟩
theorem zAi {α : Type} : ∀ (bl : List Nat) (xs H : List α), (putAt bl xs H).length = H.length
 | [], _, _ => by simp [putAt]
 | _ :: _, [], _ => by simp [putAt]
 | b :: bl, x :: xs, H => by simp [putAt, zAi bl xs]
theorem zDi {α : Type} : ∀ (bl : List Nat) (xs H : List α) (j : Nat), j ∉ bl → (putAt bl xs H)[j]? = H[j]?
 | [], _, _, _, _ => by simp [putAt]
 | _ :: _, [], _, _, _ => by simp [putAt]
 | b :: bl, x :: xs, H, j, h => by
   simp only [List.mem_cons, not_or] at h
   simp only [putAt]
   rw [zDi bl xs _ j h.2, List.getElem?_set, if_neg (fun e => h.1 e.symm)]
theorem putAt_in {α : Type} : ∀ (bl : List Nat) (xs H : List α) (i b : Nat) (x : α), bl.Nodup → bl[i]? = some b → xs[i]? = some x → b < H.length → (putAt bl xs H)[b]? = some x
 | [], _, _, i, _, _, _, h, _, _ => by simp at h
 | _ :: _, [], _, i, _, _, _, _, h, _ => by simp at h
 | c :: bl, y :: xs, H, 0, b, x, hn, h1, h2, h3 => by
   simp at h1 h2; subst h1; subst h2
   simp only [putAt]
   rw [zDi bl xs _ c (List.nodup_cons.1 hn).1]
   simp [h3]
 | c :: bl, y :: xs, H, i + 1, b, x, hn, h1, h2, h3 => by
   simp only [putAt]
   exact putAt_in bl xs _ i b x (List.nodup_cons.1 hn).2 (by simpa using h1) (by simpa using h2) (by simpa using h3)
theorem zFj {α : Type} {l : List α} : ∀ {bl : List Nat}, (∀ b ∈ bl, b < l.length) → (bl.filterMap (l[·]?)).length = bl.length ∧ ∀ (i b : Nat), bl[i]? = some b → (bl.filterMap (l[·]?))[i]? = l[b]?
 | [], _ => by simp
 | b :: bl, h => by
   obtain ⟨h1, h2⟩ := zFj (l := l) (bl := bl) fun c hc => h c (by simp [hc])
   have hb := h b (by simp)
   have e : l[b]? = some l[b] := List.getElem?_eq_getElem hb
   rw [List.filterMap_cons_some e]
   refine ⟨by simp [h1], fun i c hi => ?_⟩
   cases i with
   | zero => simp at hi; subst hi; simp [hb]
   | succ i => simpa using h2 i c (by simpa using hi)
structure SelOk (hp : Hp) (bl tl : List Nat) : Prop where
 bn : bl.Nodup
 tn : tl.Nodup
 bl_ : ∀ b ∈ bl, b < hp.H.length
 tl_ : ∀ t ∈ tl, t < hp.tk.length
section
variable {w0 : World} {B G : Gh} {hp : Hp} {w : World} {bl tl : List Nat}
theorem Ren.sel (h : HeapRel w G hp) (hs : SelOk hp bl tl) : Ren (posF bl) (posF tl) G (G.sel bl tl) := by
 obtain ⟨_, r2⟩ := zFj (l := G.r) (bl := bl) fun b hb => by rw [← h.len]; exact hs.bl_ b hb
 obtain ⟨_, t2⟩ := zFj (l := G.tk) (bl := tl) fun b hb => by rw [← h.lent]; exact hs.tl_ b hb
 refine ⟨rfl, fun b i n h1 h2 => ?_, fun t i T h1 h2 => ?_⟩
 ·exact (r2 i b (zB5 h1)).trans h2
 ·exact (t2 i t (zB5 h1)).trans h2
theorem zCe {α : Type} {l : List α} {bl : List Nat} {x : α} (h : x ∈ bl.filterMap (l[·]?)) : ∃ b ∈ bl, l[b]? = some x := by simpa [List.mem_filterMap] using h
theorem nodup_sel {l : List Nat} : ∀ {bl : List Nat}, l.Nodup → bl.Nodup → (bl.filterMap (l[·]?)).Nodup
 | [], _, _ => by simp
 | b :: bl, hl, hb => by
   obtain ⟨h1, h2⟩ := List.nodup_cons.1 hb
   have ih := nodup_sel hl h2
   cases e : l[b]? with
   | none => rw [List.filterMap_cons_none e]; exact ih
   | some x =>
     rw [List.filterMap_cons_some e, List.nodup_cons]
     refine ⟨fun hm => ?_, ih⟩
     obtain ⟨c, hc, hx⟩ := zCe hm
     have := zDk hl e hx
     subst this; exact h1 hc
theorem blks_sel {l : List Tk} : ∀ {tl : List Nat}, (blks l).Nodup → tl.Nodup → (blks (tl.filterMap (l[·]?))).Nodup
 | [], _, _ => by simp [blks]
 | t :: tl, hl, ht => by
   obtain ⟨h1, h2⟩ := List.nodup_cons.1 ht
   have ih := blks_sel hl h2
   cases e : l[t]? with
   | none => rw [List.filterMap_cons_none e]; exact ih
   | some T =>
     rw [List.filterMap_cons_some e]
     unfold blks at ih ⊢
     cases hb : T.blk with
     | none => rw [List.filterMap_cons_none hb]; exact ih
     | some b =>
       rw [List.filterMap_cons_some hb, List.nodup_cons]
       refine ⟨fun hm => ?_, ih⟩
       obtain ⟨U, hU, hUb⟩ := List.mem_filterMap.1 hm
       obtain ⟨u, hu, hue⟩ := zCe hU
       have := zE6 hl e hue hb hUb
       subst this; exact h1 hu
theorem HeapRel.sel (h : HeapRel w G hp) (hs : SelOk hp bl tl) : HeapRel w (G.sel bl tl) (hp.sel bl tl) := by
 have hr := Ren.sel h hs
 obtain ⟨r1, r2⟩ := zFj (l := G.r) (bl := bl) fun b hb => by rw [← h.len]; exact hs.bl_ b hb
 obtain ⟨t1, t2⟩ := zFj (l := G.tk) (bl := tl) fun b hb => by rw [← h.lent]; exact hs.tl_ b hb
 refine ⟨?_, fun i C n hC hn => ?_, fun n hn => ?_, nodup_sel h.nodup hs.bn, ?_, fun i V T hV hT => ?_, fun T hT => ?_, blks_sel h.tokd hs.tn, fun b o ho => ⟨(h.imm b o ho).1, fun i hi => ?_⟩⟩
 ·simp only [Hp.sel, Gh.sel, Blk.rnL_eq, List.length_map]; exact r1.symm
 ·simp only [Hp.sel, Blk.rnL_eq, List.getElem?_map, Option.map_eq_some_iff] at hC
  obtain ⟨C', ⟨b, hb, rfl⟩, rfl⟩ := hC
  have hl := hs.bl_ b (List.mem_of_getElem? hb)
  have hn' : G.r[b]? = some n := by rw [← r2 i b hb]; exact hn
  have e : hp.H[b]? = some (hp.H.getD b .gone) := by simp [List.getD, hl]
  exact (h.blk b _ n e hn').rn hr
 ·obtain ⟨b, _, hb⟩ := zCe hn
  exact h.lt n (List.mem_of_getElem? hb)
 ·simp only [Hp.sel, Gh.sel, Tv.rnL_eq, List.length_map]; exact t1.symm
 ·simp only [Hp.sel, Tv.rnL_eq, List.getElem?_map, Option.map_eq_some_iff] at hV
  obtain ⟨V', ⟨t, ht, rfl⟩, rfl⟩ := hV
  have hl := hs.tl_ t (List.mem_of_getElem? ht)
  have hT' : G.tk[t]? = some T := by rw [← t2 i t ht]; exact hT
  have e : hp.tk[t]? = some (hp.tk.getD t (.per 0 0)) := by simp [List.getD, hl]
  exact (h.tv t _ T e hT').rn hr
 ·obtain ⟨t, _, ht⟩ := zCe hT
  refine (h.tok T (List.mem_of_getElem? ht)).keep (fun _ _ => rfl) fun b _ hb hm => hb ?_
  obtain ⟨c, _, hc⟩ := zCe hm
  exact List.mem_of_getElem? hc
 ·have hi' : (bl.filterMap (G.r[·]?))[i]? = some b := hi
  have hlt : i < bl.length := by rw [← r1]; exact zAg hi'
  have hbi := List.getElem?_eq_getElem hlt
  have hG : G.r[bl[i]]? = some b := by rw [← r2 i _ hbi]; exact hi'
  have := (h.imm b o ho).2 _ hG
  simp only [Hp.sel, Blk.rnL_eq, List.getElem?_map, hbi, Option.map_some, List.getD, this]
  rfl
theorem own_sel {n : Nat} (h : n ∈ (G.sel bl tl).own) : n ∈ G.own := by
 rcases List.mem_append.1 h with q | q
 ·obtain ⟨b, _, hb⟩ := zCe q
  exact List.mem_append.2 (.inl (List.mem_of_getElem? hb))
 ·obtain ⟨T, hT, hTb⟩ := mem_blks.1 q
  obtain ⟨t, _, ht⟩ := zCe hT
  exact List.mem_append.2 (.inr (mem_blks.2 ⟨T, List.mem_of_getElem? ht, hTb⟩))
def Gh.back (G : Gh) (bl tl : List Nat) (g1 : Gh) : Gh := ⟨G.r ++ g1.r.drop bl.length, putAt tl (g1.tk.take tl.length) G.tk ++ g1.tk.drop tl.length, g1.I⟩
theorem drop_get {α : Type} {l : List α} {n i : Nat} {x : α} (h : (l.drop n)[i]? = some x) : l[n + i]? = some x := by rwa [List.getElem?_drop] at h
theorem nodup_blks : ∀ {l : List Tk}, (∀ (i j : Nat) (T U : Tk) (n : Nat), l[i]? = some T → l[j]? = some U → T.blk = some n → U.blk = some n → i = j) → (blks l).Nodup
 | [], _ => by simp [blks]
 | T :: l, h => by
   have ih := nodup_blks (l := l) fun i j U V n hi hj h1 h2 => by
    have := h (i + 1) (j + 1) U V n (by simpa using hi) (by simpa using hj) h1 h2
    omega
   unfold blks at ih ⊢
   cases hb : T.blk with
   | none => rw [List.filterMap_cons_none hb]; exact ih
   | some b =>
     rw [List.filterMap_cons_some hb, List.nodup_cons]
     refine ⟨fun hm => ?_, ih⟩
     obtain ⟨U, hU, hUb⟩ := List.mem_filterMap.1 hm
     obtain ⟨j, hj⟩ := List.mem_iff_getElem?.1 hU
     have := h 0 (j + 1) T U b (by simp) (by simpa using hj) hb hUb
     omega
theorem Inv.back {w' : World} {hp1 : Hp} {g1 : Gh} (h : Inv w0 B hp w G) (hs : SelOk hp bl tl) (h1 : Inv w (G.sel bl tl) hp1 w' g1) :
 Inv w0 B (hp.back bl tl hp1) w' (G.back bl tl g1) ∧ Evo w G w' (G.back bl tl g1) ∧ Ren (bakF bl hp.H.length) (bakF tl hp.tk.length) g1 (G.back bl tl g1) := by
 have h0 := h.heap
 have c0 := h1.heap
 obtain ⟨r1, r2⟩ := zFj (l := G.r) (bl := bl) fun b hb => by rw [← h0.len]; exact hs.bl_ b hb
 obtain ⟨t1, t2⟩ := zFj (l := G.tk) (bl := tl) fun b hb => by rw [← h0.lent]; exact hs.tl_ b hb
 have hblG : ∀ i b : Nat, bl[i]? = some b → ∃ n, G.r[b]? = some n ∧ (G.sel bl tl).r[i]? = some n ∧ g1.r[i]? = some n := by
  intro i b hb
  have hl : b < G.r.length := by rw [← h0.len]; exact hs.bl_ b (List.mem_of_getElem? hb)
  have e1 := List.getElem?_eq_getElem hl
  have e2 : (G.sel bl tl).r[i]? = some G.r[b] := (r2 i b hb).trans e1
  exact ⟨_, e1, e2, h1.evo.ref i _ e2⟩
 have htlG : ∀ i t : Nat, tl[i]? = some t → ∃ T T1, G.tk[t]? = some T ∧ (G.sel bl tl).tk[i]? = some T ∧ g1.tk[i]? = some T1 ∧ T1.k = T.k ∧ (T1 = T ∨ T.len < T1.len) := by
  intro i t ht
  have hl : t < G.tk.length := by rw [← h0.lent]; exact hs.tl_ t (List.mem_of_getElem? ht)
  have e1 := List.getElem?_eq_getElem hl
  have e2 : (G.sel bl tl).tk[i]? = some G.tk[t] := (t2 i t ht).trans e1
  obtain ⟨T1, q1, q2⟩ := h1.evo.tok i _ e2
  exact ⟨_, T1, e1, e2, q1, q2⟩
 have hbl1 : bl.length ≤ g1.r.length := by
  rcases Nat.lt_or_ge g1.r.length bl.length with q | q
  ·obtain ⟨n, _, _, e⟩ := hblG g1.r.length _ (List.getElem?_eq_getElem q)
   simp at e
  ·exact q
 have htl1 : tl.length ≤ g1.tk.length := by
  rcases Nat.lt_or_ge g1.tk.length tl.length with q | q
  ·obtain ⟨T, T1, _, _, e, _⟩ := htlG g1.tk.length _ (List.getElem?_eq_getElem q)
   simp at e
  ·exact q
 have htake : (g1.tk.take tl.length).length = tl.length := by simp; omega
 have rOld : ∀ b n : Nat, G.r[b]? = some n → (G.back bl tl g1).r[b]? = some n := fun b n hb => by
  show (G.r ++ g1.r.drop bl.length)[b]? = some n
  rw [List.getElem?_append_left (zAg hb)]; exact hb
 have rNew : ∀ i n : Nat, bl.length ≤ i → g1.r[i]? = some n → (G.back bl tl g1).r[hp.H.length + (i - bl.length)]? = some n := fun i n hi hn => by
  show (G.r ++ g1.r.drop bl.length)[_]? = some n
  rw [List.getElem?_append_right (by rw [← h0.len]; omega), ← h0.len, List.getElem?_drop, ← hn]
  congr 1; omega
 have tOut : ∀ (t : Nat) (T : Tk), t ∉ tl → G.tk[t]? = some T → (G.back bl tl g1).tk[t]? = some T := fun t T ht hT => by
  show (putAt tl (g1.tk.take tl.length) G.tk ++ g1.tk.drop tl.length)[t]? = some T
  rw [List.getElem?_append_left (by rw [zAi]; exact zAg hT), zDi _ _ _ _ ht]; exact hT
 have tIn : ∀ (i t : Nat) (T1 : Tk), tl[i]? = some t → g1.tk[i]? = some T1 → (G.back bl tl g1).tk[t]? = some T1 := fun i t T1 ht hT => by
  have hl : t < G.tk.length := by rw [← h0.lent]; exact hs.tl_ t (List.mem_of_getElem? ht)
  show (putAt tl (g1.tk.take tl.length) G.tk ++ g1.tk.drop tl.length)[t]? = some T1
  rw [List.getElem?_append_left (by rw [zAi]; exact hl)]
  exact putAt_in _ _ _ i t T1 hs.tn ht (by rw [List.getElem?_take, if_pos (zAg ht)]; exact hT) hl
 have tNew : ∀ (i : Nat) (T1 : Tk), tl.length ≤ i → g1.tk[i]? = some T1 → (G.back bl tl g1).tk[hp.tk.length + (i - tl.length)]? = some T1 := fun i T1 hi hT => by
  show (putAt tl (g1.tk.take tl.length) G.tk ++ g1.tk.drop tl.length)[_]? = some T1
  rw [List.getElem?_append_right (by rw [zAi, ← h0.lent]; omega), zAi, ← h0.lent, List.getElem?_drop, ← hT]
  congr 1; omega
 have hren : Ren (bakF bl hp.H.length) (bakF tl hp.tk.length) g1 (G.back bl tl g1) := by
  refine ⟨rfl, fun i b n hi hn => ?_, fun i t T hi hT => ?_⟩
  ·unfold bakF at hi
   split at hi
   ·rename_i hlt
    obtain ⟨m, q1, _, q3⟩ := hblG i b hi
    rw [hn] at q3; cases q3
    exact rOld b n q1
   ·cases hi; exact rNew i n (by omega) hn
  ·unfold bakF at hi
   split at hi
   ·exact tIn i t T hi hT
   ·cases hi; exact tNew i T (by omega) hT
 have hevo : Evo w G w' (G.back bl tl g1) := by
  refine ⟨fun b o ho => h1.evo.imm b o ho, rOld, fun t T hT => ?_⟩
  by_cases ht : t ∈ tl
  ·obtain ⟨i, hi⟩ := List.mem_iff_getElem?.1 ht
   obtain ⟨T0, T1, q1, _, q3, q4⟩ := htlG i t hi
   rw [hT] at q1; cases q1
   exact ⟨T1, tIn i t T1 hi q3, q4⟩
  ·exact ⟨T, tOut t T ht hT, rfl, .inl rfl⟩
 have selr : ∀ (b n : Nat), G.r[b]? = some n → b ∉ bl → n ∉ (G.sel bl tl).own := by
  intro b n hb hnb hm
  rcases List.mem_append.1 hm with q | q
  ·obtain ⟨c, hc, hcn⟩ := zCe q
   have := zDk h0.nodup hb hcn
   subst this; exact hnb hc
  ·obtain ⟨T, hT, hTb⟩ := mem_blks.1 q
   obtain ⟨t, _, ht⟩ := zCe hT
   exact ((h0.tok T (List.mem_of_getElem? ht)).2.2 n hTb).2.1 (List.mem_of_getElem? hb)
 have selt : ∀ (t : Nat) (T : Tk) (n : Nat), G.tk[t]? = some T → T.blk = some n → t ∉ tl → n ∉ (G.sel bl tl).own := by
  intro t T n hT hTb hnt hm
  rcases List.mem_append.1 hm with q | q
  ·obtain ⟨c, hc, hcn⟩ := zCe q
   exact ((h0.tok T (List.mem_of_getElem? hT)).2.2 n hTb).2.1 (List.mem_of_getElem? hcn)
  ·obtain ⟨U, hU, hUb⟩ := mem_blks.1 q
   obtain ⟨u, hu, hue⟩ := zCe hU
   have := zE6 h0.tokd hT hue hTb hUb
   subst this; exact hnt hu
 have keepr : ∀ (b n : Nat), G.r[b]? = some n → b ∉ bl → w'.heap[n]? = w.heap[n]? := fun b n hb hnb => h1.keeps.block n (h0.lt n (List.mem_of_getElem? hb)) (selr b n hb hnb)
 have keept : ∀ (t : Nat) (T : Tk) (n : Nat), G.tk[t]? = some T → T.blk = some n → t ∉ tl → w'.heap[n]? = w.heap[n]? := fun t T n hT hTb hnt => h1.keeps.block n ((h0.tok T (List.mem_of_getElem? hT)).lt hTb) (selt t T n hT hTb hnt)
 have Iold : ∀ (b o : Nat), g1.I b o → b < w.heap.size → b ∉ (G.sel bl tl).own → G.I b o := fun b o ho hlt hn => by
  rcases h1.i1 b o ho with q | q | q
  ·exact q
  ·omega
  ·exact absurd (List.mem_append.2 (.inr q)) hn
 have newr1 : ∀ (i n : Nat), bl.length ≤ i → g1.r[i]? = some n → w.heap.size ≤ n := fun i n hi hn => by
  rcases h1.newr n (List.mem_of_getElem? hn) with q | q
  ·exfalso
   obtain ⟨j, hj⟩ := List.mem_iff_getElem?.1 q
   have e := zDk c0.nodup hn (h1.evo.ref j n hj)
   have := zAg hj
   have e2 : (G.sel bl tl).r.length = bl.length := r1
   omega
  ·exact q
 have tkAll : ∀ (t : Nat) (T : Tk), (G.back bl tl g1).tk[t]? = some T → (t ∉ tl ∧ G.tk[t]? = some T) ∨ (∃ i : Nat, tl[i]? = some t ∧ g1.tk[i]? = some T) ∨ ∃ i : Nat, tl.length ≤ i ∧ t = hp.tk.length + (i - tl.length) ∧ g1.tk[i]? = some T := by
  intro t T hT
  have hT' : (putAt tl (g1.tk.take tl.length) G.tk ++ g1.tk.drop tl.length)[t]? = some T := hT
  by_cases hlt : t < G.tk.length
  ·by_cases ht : t ∈ tl
   ·obtain ⟨i, hi⟩ := List.mem_iff_getElem?.1 ht
    obtain ⟨T0, T1, _, _, q3, _⟩ := htlG i t hi
    have := tIn i t T1 hi q3
    rw [hT] at this; cases this
    exact .inr (.inl ⟨i, hi, q3⟩)
   ·rw [List.getElem?_append_left (by rw [zAi]; exact hlt), zDi _ _ _ _ ht] at hT'
    exact .inl ⟨ht, hT'⟩
  ·rw [List.getElem?_append_right (by rw [zAi]; omega), zAi, List.getElem?_drop] at hT'
   exact .inr (.inr ⟨_, Nat.le_add_right _ _, by rw [h0.lent]; omega, hT'⟩)
 have rAll : ∀ (b n : Nat), (G.back bl tl g1).r[b]? = some n → G.r[b]? = some n ∨ ∃ i : Nat, bl.length ≤ i ∧ b = hp.H.length + (i - bl.length) ∧ g1.r[i]? = some n := by
  intro b n hb
  have hb' : (G.r ++ g1.r.drop bl.length)[b]? = some n := hb
  by_cases hlt : b < G.r.length
  ·rw [List.getElem?_append_left hlt] at hb'; exact .inl hb'
  ·rw [List.getElem?_append_right (by omega), List.getElem?_drop] at hb'
   exact .inr ⟨_, Nat.le_add_right _ _, by rw [h0.len]; omega, hb'⟩
 have Hin : ∀ (i b : Nat) (C : Blk), bl[i]? = some b → hp1.H[i]? = some C → (hp.back bl tl hp1).H[b]? = some (C.rn (bakF bl hp.H.length) (bakF tl hp.tk.length)) := fun i b C hb hC => by
  have hl := hs.bl_ b (List.mem_of_getElem? hb)
  simp only [Hp.back]
  rw [List.getElem?_append_left (by rw [zAi]; exact hl)]
  refine putAt_in _ _ _ i b _ hs.bn hb ?_ hl
  rw [Blk.rnL_eq, List.getElem?_map, List.getElem?_take, if_pos (zAg hb), hC]; rfl
 have Hout : ∀ (b : Nat), b < hp.H.length → b ∉ bl → (hp.back bl tl hp1).H[b]? = hp.H[b]? := fun b hl hb => by
  simp only [Hp.back]
  rw [List.getElem?_append_left (by rw [zAi]; exact hl), zDi _ _ _ _ hb]
 have Hnew : ∀ (i : Nat) (C : Blk), bl.length ≤ i → hp1.H[i]? = some C → (hp.back bl tl hp1).H[hp.H.length + (i - bl.length)]? = some (C.rn (bakF bl hp.H.length) (bakF tl hp.tk.length)) := fun i C hi hC => by
  simp only [Hp.back]
  rw [List.getElem?_append_right (by rw [zAi]; omega), zAi, Blk.rnL_eq, List.getElem?_map, List.getElem?_drop]
  rw [show bl.length + (hp.H.length + (i - bl.length) - hp.H.length) = i by omega, hC]; rfl
 have Tin : ∀ (i t : Nat) (V : Tv), tl[i]? = some t → hp1.tk[i]? = some V → (hp.back bl tl hp1).tk[t]? = some (V.rn (bakF bl hp.H.length) (bakF tl hp.tk.length)) := fun i t V ht hV => by
  have hl := hs.tl_ t (List.mem_of_getElem? ht)
  simp only [Hp.back]
  rw [List.getElem?_append_left (by rw [zAi]; exact hl)]
  refine putAt_in _ _ _ i t _ hs.tn ht ?_ hl
  rw [Tv.rnL_eq, List.getElem?_map, List.getElem?_take, if_pos (zAg ht), hV]; rfl
 have Tout : ∀ (t : Nat), t < hp.tk.length → t ∉ tl → (hp.back bl tl hp1).tk[t]? = hp.tk[t]? := fun t hl ht => by
  simp only [Hp.back]
  rw [List.getElem?_append_left (by rw [zAi]; exact hl), zDi _ _ _ _ ht]
 have Tnew : ∀ (i : Nat) (V : Tv), tl.length ≤ i → hp1.tk[i]? = some V → (hp.back bl tl hp1).tk[hp.tk.length + (i - tl.length)]? = some (V.rn (bakF bl hp.H.length) (bakF tl hp.tk.length)) := fun i V hi hV => by
  simp only [Hp.back]
  rw [List.getElem?_append_right (by rw [zAi]; omega), zAi, Tv.rnL_eq, List.getElem?_map, List.getElem?_drop]
  rw [show tl.length + (hp.tk.length + (i - tl.length) - hp.tk.length) = i by omega, hV]; rfl
 have tkOkAll : ∀ T ∈ (G.back bl tl g1).tk, TkOk w' (G.back bl tl g1) T := by
  intro T hT
  obtain ⟨t, ht⟩ := List.mem_iff_getElem?.1 hT
  rcases tkAll t T ht with ⟨q1, q2⟩ | q
  ·refine (h0.tok T (List.mem_of_getElem? q2)).keep (fun b hb => keept t T b q2 hb q1) fun b hb hn hm => ?_
   obtain ⟨c, hc⟩ := List.mem_iff_getElem?.1 hm
   rcases rAll c b hc with p | ⟨i, p1, _, p3⟩
   ·exact hn (List.mem_of_getElem? p)
   ·have := newr1 i b p1 p3
    have := (h0.tok T (List.mem_of_getElem? q2)).lt hb
    omega
  ·obtain ⟨i, hi⟩ : ∃ i : Nat, g1.tk[i]? = some T := by
    rcases q with ⟨i, _, hi⟩ | ⟨i, _, _, hi⟩ <;> exact ⟨i, hi⟩
   have hT1 := List.mem_of_getElem? hi
   refine (c0.tok T hT1).keep (fun _ _ => rfl) fun b hb hn hm => ?_
   obtain ⟨c, hc⟩ := List.mem_iff_getElem?.1 hm
   rcases rAll c b hc with p | ⟨j, _, _, p3⟩
   ·
    by_cases hcb : c ∈ bl
    ·obtain ⟨j, hj⟩ := List.mem_iff_getElem?.1 hcb
     obtain ⟨m, e1, _, e3⟩ := hblG j c hj
     rw [p] at e1; cases e1
     exact hn (List.mem_of_getElem? e3)
    ·have hns := selr c b p hcb
     rcases h1.newt b (mem_blks.2 ⟨T, hT1, hb⟩) with e | e
     ·exact hns (List.mem_append.2 (.inr e))
     ·have := h0.lt b (List.mem_of_getElem? p); omega
   ·exact hn (List.mem_of_getElem? p3)
 have hh : HeapRel w' (G.back bl tl g1) (hp.back bl tl hp1) := by
  refine ⟨?_, fun b C n hC hn => ?_, fun n hn => ?_, ?_, ?_, fun t V T hV hT => ?_, tkOkAll, ?_, fun b o ho => ?_⟩
  ·simp only [Hp.back, Gh.back, List.length_append, zAi, Blk.rnL_eq, List.length_map, List.length_drop, h0.len, c0.len]
  ·rcases rAll b n hn with q | ⟨i, q1, q2, q3⟩
   ·have hl : b < hp.H.length := by rw [h0.len]; exact zAg q
    by_cases hb : b ∈ bl
    ·obtain ⟨i, hi⟩ := List.mem_iff_getElem?.1 hb
     obtain ⟨m, e1, _, e3⟩ := hblG i b hi
     rw [q] at e1; cases e1
     obtain ⟨C', hC'⟩ : ∃ C', hp1.H[i]? = some C' := ⟨_, List.getElem?_eq_getElem (by rw [c0.len]; exact zAg e3)⟩
     rw [Hin i b C' hi hC'] at hC; cases hC
     exact (c0.blk i C' n hC' e3).rn hren
    ·rw [Hout b hl hb] at hC
     rw [keepr b n q hb]
     exact (h0.blk b C n hC q).evo hevo
   ·obtain ⟨C', hC'⟩ : ∃ C', hp1.H[i]? = some C' := ⟨_, List.getElem?_eq_getElem (by rw [c0.len]; exact zAg q3)⟩
    subst q2
    rw [Hnew i C' q1 hC'] at hC; cases hC
    exact (c0.blk i C' n hC' q3).rn hren
  ·obtain ⟨b, hb⟩ := List.mem_iff_getElem?.1 hn
   rcases rAll b n hb with q | ⟨i, _, _, q3⟩
   ·exact Nat.lt_of_lt_of_le (h0.lt n (List.mem_of_getElem? q)) h1.keeps.size
   ·exact c0.lt n (List.mem_of_getElem? q3)
  ·show (G.r ++ g1.r.drop bl.length).Nodup
   rw [List.nodup_append]
   refine ⟨h0.nodup, c0.nodup.sublist (List.drop_sublist _ _), fun a ha b hb e => ?_⟩
   subst e
   obtain ⟨i, hi⟩ := List.mem_iff_getElem?.1 hb
   have := newr1 _ a (Nat.le_add_right _ _) (drop_get hi)
   have := h0.lt a ha
   omega
  ·simp only [Hp.back, Gh.back, List.length_append, zAi, Tv.rnL_eq, List.length_map, List.length_drop, h0.lent, c0.lent]
  ·rcases tkAll t T hT with ⟨q1, q2⟩ | ⟨i, q1, q2⟩ | ⟨i, q1, q2, q3⟩
   ·rw [Tout t (by rw [h0.lent]; exact zAg q2) q1] at hV
    refine (h0.tv t V T hV q2).evo hevo (fun b hb o ho => Iold b o ho ((h0.tok T (List.mem_of_getElem? q2)).lt hb) (selt t T b q2 hb q1)) fun b hb => keept t T b q2 hb q1
   ·obtain ⟨V', hV'⟩ : ∃ V', hp1.tk[i]? = some V' := ⟨_, List.getElem?_eq_getElem (by rw [c0.lent]; exact zAg q2)⟩
    rw [Tin i t V' q1 hV'] at hV; cases hV
    exact (c0.tv i V' T hV' q2).rn hren
   ·obtain ⟨V', hV'⟩ : ∃ V', hp1.tk[i]? = some V' := ⟨_, List.getElem?_eq_getElem (by rw [c0.lent]; exact zAg q3)⟩
    subst q2
    rw [Tnew i V' q1 hV'] at hV; cases hV
    exact (c0.tv i V' T hV' q3).rn hren
  ·refine nodup_blks fun i j T U n hi hj hTb hUb => ?_
   have cross : ∀ (t : Nat) (T : Tk) (n : Nat), t ∉ tl → G.tk[t]? = some T → T.blk = some n → n ∉ blks g1.tk := by
    intro t T n ht hT hTb hm
    rcases h1.newt n hm with e | e
    ·exact selt t T n hT hTb ht (List.mem_append.2 (.inr e))
    ·have := (h0.tok T (List.mem_of_getElem? hT)).lt hTb; omega
   rcases tkAll i T hi with ⟨q1, q2⟩ | q <;> rcases tkAll j U hj with ⟨p1, p2⟩ | p
   ·exact zE6 h0.tokd q2 p2 hTb hUb
   ·obtain ⟨k, hk⟩ : ∃ k : Nat, g1.tk[k]? = some U := by rcases p with ⟨k, _, hk⟩ | ⟨k, _, _, hk⟩ <;> exact ⟨k, hk⟩
    exact absurd (mem_blks.2 ⟨U, List.mem_of_getElem? hk, hUb⟩) (cross i T n q1 q2 hTb)
   ·obtain ⟨k, hk⟩ : ∃ k : Nat, g1.tk[k]? = some T := by rcases q with ⟨k, _, hk⟩ | ⟨k, _, _, hk⟩ <;> exact ⟨k, hk⟩
    exact absurd (mem_blks.2 ⟨T, List.mem_of_getElem? hk, hTb⟩) (cross j U n p1 p2 hUb)
   ·rcases q with ⟨k, hk1, hk2⟩ | ⟨k, hk1, hk3, hk2⟩ <;> rcases p with ⟨m, hm1, hm2⟩ | ⟨m, hm1, hm3, hm2⟩
    ·have := zE6 c0.tokd hk2 hm2 hTb hUb
     subst this; rw [hk1] at hm1; cases hm1; rfl
    ·have := zE6 c0.tokd hk2 hm2 hTb hUb
     have := zAg hk1; omega
    ·have := zE6 c0.tokd hk2 hm2 hTb hUb
     have := zAg hm1; omega
    ·have := zE6 c0.tokd hk2 hm2 hTb hUb
     subst this; rw [hk3, hm3]
  ·refine ⟨(c0.imm b o ho).1, fun i hi => ?_⟩
   rcases rAll i b hi with q | ⟨j, q1, q2, q3⟩
   ·have hl : i < hp.H.length := by rw [h0.len]; exact zAg q
    by_cases hb : i ∈ bl
    ·obtain ⟨j, hj⟩ := List.mem_iff_getElem?.1 hb
     obtain ⟨m, e1, _, e3⟩ := hblG j i hj
     rw [q] at e1; cases e1
     exact Hin j i .gone hj ((c0.imm b o ho).2 j e3)
    ·rw [Hout i hl hb]
     exact (h0.imm b o (Iold b o ho (h0.lt b (List.mem_of_getElem? q)) (selr i b q hb))).2 i q
   ·subst q2
    exact Hnew j .gone q1 ((c0.imm b o ho).2 j q3)
 refine ⟨h.step hh hevo ⟨h1.keeps.os, h1.keeps.tape, h1.keeps.output, h1.keeps.size, fun b hb hn => h1.keeps.block b hb fun hm => hn (own_sel hm)⟩ (fun n hn => ?_) (fun n hn => ?_) (fun b o ho => ?_), hevo, hren⟩
 ·obtain ⟨b, hb⟩ := List.mem_iff_getElem?.1 hn
  rcases rAll b n hb with q | ⟨i, q1, _, q3⟩
  ·exact .inl (List.mem_of_getElem? q)
  ·exact .inr (newr1 i n q1 q3)
 ·obtain ⟨T, hT, hTb⟩ := mem_blks.1 hn
  obtain ⟨t, ht⟩ := List.mem_iff_getElem?.1 hT
  have sub : n ∈ blks (G.sel bl tl).tk → n ∈ blks G.tk := fun hm => by
   obtain ⟨U, hU, hUb⟩ := mem_blks.1 hm
   obtain ⟨u, _, hu⟩ := zCe hU
   exact mem_blks.2 ⟨U, List.mem_of_getElem? hu, hUb⟩
  rcases tkAll t T ht with ⟨_, q2⟩ | q
  ·exact .inl (mem_blks.2 ⟨T, List.mem_of_getElem? q2, hTb⟩)
  ·obtain ⟨k, hk⟩ : ∃ k : Nat, g1.tk[k]? = some T := by rcases q with ⟨k, _, hk⟩ | ⟨k, _, _, hk⟩ <;> exact ⟨k, hk⟩
   exact (h1.newt n (mem_blks.2 ⟨T, List.mem_of_getElem? hk, hTb⟩)).imp sub id
 ·rcases h1.i1 b o ho with q | q | q
  ·exact .inl q
  ·exact .inr (.inl q)
  ·obtain ⟨U, hU, hUb⟩ := mem_blks.1 q
   obtain ⟨u, _, hu⟩ := zCe hU
   exact .inr (.inr (mem_blks.2 ⟨U, List.mem_of_getElem? hu, hUb⟩))
theorem zD3 {M : Mod} {f : FuncId} {first cap args : List D} {K : D → Hp → Prop} {ds : List D} {hp0 : Hp} {R : D → Hp → Prop} (bl tl : List Nat) (h : Eff M f ds hp0 R) (hs : SelOk hp bl tl)
 (hd : D.rnL (posF bl) (posF tl) (first ++ args ++ cap) = ds) (hh : hp.sel bl tl = hp0)
 (hk : ∀ d hp1, R d hp1 → K (d.rn (bakF bl hp.H.length) (bakF tl hp.tk.length)) (hp.back bl tl hp1)) : CallOp M (.fn (.func f) first cap :: args) hp K := by
 intro w0 B w G vs hA hi hr
 obtain ⟨fv, av, rfl, h1, h2⟩ := hr.inv
 simp only [Rel] at h1
 obtain ⟨xs, ys, rfl, h3, h4⟩ := h1
 refine .inl ⟨f, xs.toArray, ys.toArray, av, rfl, h.1, ?_⟩
 have hall := RelL.rn _ (Ren.sel hi.heap hs) ((h3.append h2).append h4)
 have hhs := hi.heap.sel hs
 rw [hd] at hall
 rw [hh] at hhs
 have hamb : M.amb w (G.sel bl tl).own := M.up _ _ _ _ hA.1 hi.keeps fun n hn => hi.new n (own_sel hn)
 have hcall := h.2 w (G.sel bl tl) (xs ++ av ++ ys) hamb hhs hall
 have e : (xs.toArray ++ av.toArray ++ ys.toArray) = (xs ++ av ++ ys).toArray := by simp
 rw [e]
 refine Calls.mono hcall fun e w' hp' => ?_
 obtain ⟨v, d, hp1, g1, rfl, hR, g3, g4⟩ := hp'
 obtain ⟨q1, q2, q3⟩ := hi.back hs g3
 exact ⟨v, _, _, _, rfl, hk d hp1 hR, q1, q2, Rel.rn _ q3 g4⟩
theorem zE5 {M : Mod} {f : FuncId} {first cap args : List D} {K : D → Hp → Prop} {d : D} (hc : D.cL (first ++ args ++ cap) = true) (h : Pur M f (D.erL (first ++ args ++ cap)) d) (hk : K d hp) :
 CallOp M (.fn (.func f) first cap :: args) hp K := by
 intro w0 B w G vs hA hi hr
 obtain ⟨fv, av, rfl, h1, h2⟩ := hr.inv
 simp only [Rel] at h1
 obtain ⟨xs, ys, rfl, h3, h4⟩ := h1
 refine .inl ⟨f, xs.toArray, ys.toArray, av, rfl, h.1, ?_⟩
 have hs : SelOk hp [] [] := ⟨by simp, by simp, by simp, by simp⟩
 have hall := RelL.closed _ hc ((h3.append h2).append h4)
 have hhs := hi.heap.sel hs
 have e0 : G.sel [] [] = G.cl := rfl
 have e1 : hp.sel [] [] = ⟨[], []⟩ := rfl
 rw [e0, e1] at hhs
 have hcall := h.2 w G.cl (xs ++ av ++ ys) (M.up _ _ _ _ hA.1 hi.keeps fun n hn => by simp [Gh.own, Gh.cl, blks] at hn) hhs hall
 have e : (xs.toArray ++ av.toArray ++ ys.toArray) = (xs ++ av ++ ys).toArray := by simp
 rw [e]
 refine Calls.mono hcall fun e w' hp' => ?_
 obtain ⟨v, d', hp1, g1, rfl, ⟨rfl, rfl⟩, g3, g4⟩ := hp'
 rw [← e0] at g3
 obtain ⟨q1, q2, q3⟩ := hi.back hs g3
 have e2 : hp.back [] [] ⟨[], []⟩ = hp := by
  obtain ⟨H, tk⟩ := hp
  simp [Hp.back, putAt, Blk.rnL, Tv.rnL]
 rw [e2] at q1
 refine ⟨v, d', hp, _, rfl, hk, q1, q2, ?_⟩
 have hg1 : g1 = (G.back [] [] g1).cl := by
  have a1 := g3.heap.len
  have a2 := g3.heap.lent
  obtain ⟨r, tk, I⟩ := g1
  have b1 : r = [] := List.eq_nil_of_length_eq_zero a1.symm
  have b2 : tk = [] := List.eq_nil_of_length_eq_zero a2.symm
  subst b1; subst b2; rfl
 have this : Rel w' (G.back [] [] g1).cl d' v := hg1 ▸ g4
 exact this.any
end
end GoV
end
section
set_option linter.unusedSimpArgs false
set_option maxHeartbeats 1000000
namespace GoV
open Go
def OpS (P : Mod) (oc : OC) (ds : List D) (dst : Dst) (r : List RO) (K : St → Prop) (s : St) : Prop :=
 OcWp P oc ds s.hp fun d hp => opsWp P r K ({ s with hp := hp }.put dst d)
def GdS (P : Mod) (b : D) (g : Opd) (want : Bool) (dst : Dst) (oc : OC) (args : List Opd) (r : List RO) (K : St → Prop) (s : St) : Prop :=
 match b with
 | .bool b => (b = want → opsWp P (⟨dst, oc, args, none⟩ :: r) K (s.setO g (.bool want))) ∧ (b = (!want) → opsWp P r K ((s.setO g (.bool (!want))).put dst .skip))
 | .skip => opsWp P r K (s.put dst .skip)
 | _ => False
def OpQ (P : Mod) (oc : OC) (ds : List D) (dst : Dst) (rq : List (RO × Bool)) (K : St → Prop) (s : St) : Prop :=
 zAh P oc ds s.hp fun d => opsQ P rq K (s.put dst d)
def GdQ (P : Mod) (qf : Bool) (b : D) (g : Opd) (want : Bool) (dst : Dst) (oc : OC) (args : List Opd) (rq : List (RO × Bool)) (K : St → Prop) (s : St) : Prop :=
 match b with
 | .bool b => (b = want → opsQ P ((⟨dst, oc, args, none⟩, qf) :: rq) K (s.setO g (.bool want))) ∧ (b = (!want) → opsQ P rq K ((s.setO g (.bool (!want))).put dst .skip))
 | .skip => opsQ P rq K (s.put dst .skip)
 | _ => False
def OpC (P : Mod) (oc : OC) (ds : List D) (dst : Dst) (rq : List (RO × Bool)) (K : St → Prop) (s : St) : Prop :=
 detWp P oc ds s.hp fun d hp => opsQ P rq K ({ s with hp := hp }.put dst d)
def LdS (P : Mod) (ag : Bool) (n : Nat) (B : Option Blk) (off : Nat) (dst : Dst) (r : List RO) (K : St → Prop) (s : St) : Prop :=
 ∃ B' cs, B = some B' ∧ B'.csq = some cs ∧ off + n ≤ cs.length ∧ opsWp P r K (s.put dst (if ag then .agg ((cs.drop off).take n) else cs.getD off .u0))
def LdQ (P : Mod) (ag : Bool) (n : Nat) (B : Option Blk) (off : Nat) (dst : Dst) (rq : List (RO × Bool)) (K : St → Prop) (s : St) : Prop :=
 ∃ B' cs, B = some B' ∧ B'.csq = some cs ∧ off + n ≤ cs.length ∧ opsQ P rq K (s.put dst (if ag then .agg ((cs.drop off).take n) else cs.getD off .u0))
def StS (P : Mod) (n : Nat) (B : Option Blk) (b off : Nat) (v : D) (dst : Dst) (r : List RO) (K : St → Prop) (s : St) : Prop :=
 ∃ B' cs, B = some B' ∧ B'.csq = some cs ∧ v.iV = true ∧ v.cells.length = n ∧ off + n ≤ cs.length ∧ opsWp P r K ({ s with hp := { s.hp with H := s.hp.H.set b (B'.putc (setL cs off v.cells)) } }.put dst .skip)
def BlS (P : Mod) (cs : Option (List D)) (dst : Dst) (r : List RO) (K : St → Prop) (s : St) : Prop := ∃ c, cs = some c ∧ opsWp P r K (s.put dst (.agg c))
def BlQ (P : Mod) (cs : Option (List D)) (dst : Dst) (rq : List (RO × Bool)) (K : St → Prop) (s : St) : Prop := ∃ c, cs = some c ∧ opsQ P rq K (s.put dst (.agg c))
def EqS (P : Mod) (neg : Bool) (b : Option Bool) (dst : Dst) (r : List RO) (K : St → Prop) (s : St) : Prop := ∃ c, b = some c ∧ opsWp P r K (s.put dst (.bool (if neg then !c else c)))
def EqQ (P : Mod) (neg : Bool) (b : Option Bool) (dst : Dst) (rq : List (RO × Bool)) (K : St → Prop) (s : St) : Prop := ∃ c, b = some c ∧ opsQ P rq K (s.put dst (.bool (if neg then !c else c)))
def LgS (P : Mod) (ag : Bool) (n : Nat) (V : Option Tv) (m off : Nat) (dst : Dst) (r : List RO) (K : St → Prop) (s : St) : Prop :=
 ∃ k cs, V = some (.chg k cs) ∧ cs.length = m * k ∧ off + n ≤ cs.length ∧ opsWp P r K (s.put dst (if ag then .agg ((cs.drop off).take n) else cs.getD off .u0))
def LgQ (P : Mod) (ag : Bool) (n : Nat) (V : Option Tv) (m off : Nat) (dst : Dst) (rq : List (RO × Bool)) (K : St → Prop) (s : St) : Prop :=
 ∃ k cs, V = some (.chg k cs) ∧ cs.length = m * k ∧ off + n ≤ cs.length ∧ opsQ P rq K (s.put dst (if ag then .agg ((cs.drop off).take n) else cs.getD off .u0))
def SgS (P : Mod) (n : Nat) (V : Option Tv) (t m off : Nat) (v : D) (dst : Dst) (r : List RO) (K : St → Prop) (s : St) : Prop :=
 ∃ k cs, V = some (.chg k cs) ∧ cs.length = m * k ∧ v.iV = true ∧ v.cells.length = n ∧ off + n ≤ cs.length ∧ opsWp P r K ({ s with hp := { s.hp with tk := s.hp.tk.set t (.chg k (setL cs off v.cells)) } }.put dst .skip)
def MmS (P : Mod) (k : IntKind) (b : Option Int) (dst : Dst) (r : List RO) (K : St → Prop) (s : St) : Prop := ∃ c, b = some c ∧ opsWp P r K (s.put dst (.int k c))
def MmQ (P : Mod) (k : IntKind) (b : Option Int) (dst : Dst) (rq : List (RO × Bool)) (K : St → Prop) (s : St) : Prop := ∃ c, b = some c ∧ opsQ P rq K (s.put dst (.int k c))
section
variable {P : Mod} {oc : OC} {args : List Opd} {dst : Dst} {r : List RO} {rq : List (RO × Bool)} {qf : Bool} {K : St → Prop} {s : St} {g : Opd} {want : Bool} {k k' : IntKind} {a b : Int} {x y : D} {ds : List D}
theorem e_nil : opsWp P [] K s = K s := propext Iff.rfl
theorem e_step : opsWp P (⟨dst, oc, args, none⟩ :: r) K s = OpS P oc (args.map s.get) dst r K s := propext Iff.rfl
theorem e_guard : opsWp P (⟨dst, oc, args, some (g, want)⟩ :: r) K s = GdS P (s.get g) g want dst oc args r K s := by
 simp only [opsWp, headWp, GdS]
 cases s.get g <;> simp only [opsWp, headWp, zDc]
theorem f_nil : opsQ P [] K s = K s := propext Iff.rfl
theorem f_step : opsQ P ((⟨dst, oc, args, none⟩, true) :: rq) K s = OpQ P (qOp oc) (args.map s.get) dst rq K s := propext Iff.rfl
theorem f_stepD : opsQ P ((⟨dst, oc, args, none⟩, false) :: rq) K s = if zAa (qOp oc) = true then OpC P (qOp oc) (args.map s.get) dst rq K s else OpS P (qOp oc) (args.map s.get) dst [] (opsQ P rq K) s := by
 split
 ·rfl
 ·rename_i hc
  show detWp _ _ _ _ _ = _
  rw [det_op (qOp_ne _) (by simpa using hc)]; rfl
theorem f_guard : opsQ P ((⟨dst, oc, args, some (g, want)⟩, qf) :: rq) K s = GdQ P qf (s.get g) g want dst oc args rq K s := by
 simp only [opsQ, headQ, GdQ]
 cases s.get g <;> simp only [opsQ, headQ, zDc]
theorem g_tt : GdS P (.bool true) g true dst oc args r K s = opsWp P (⟨dst, oc, args, none⟩ :: r) K (s.setO g (.bool true)) := by simp [GdS]
theorem g_tf : GdS P (.bool true) g false dst oc args r K s = opsWp P r K ((s.setO g (.bool true)).put dst .skip) := by simp [GdS]
theorem g_ft : GdS P (.bool false) g true dst oc args r K s = opsWp P r K ((s.setO g (.bool false)).put dst .skip) := by simp [GdS]
theorem g_ff : GdS P (.bool false) g false dst oc args r K s = opsWp P (⟨dst, oc, args, none⟩ :: r) K (s.setO g (.bool false)) := by simp [GdS]
theorem g_sk : GdS P .skip g want dst oc args r K s = opsWp P r K (s.put dst .skip) := propext Iff.rfl
theorem h_tt : GdQ P qf (.bool true) g true dst oc args rq K s = opsQ P ((⟨dst, oc, args, none⟩, qf) :: rq) K (s.setO g (.bool true)) := by simp [GdQ]
theorem h_tf : GdQ P qf (.bool true) g false dst oc args rq K s = opsQ P rq K ((s.setO g (.bool true)).put dst .skip) := by simp [GdQ]
theorem h_ft : GdQ P qf (.bool false) g true dst oc args rq K s = opsQ P rq K ((s.setO g (.bool false)).put dst .skip) := by simp [GdQ]
theorem h_ff : GdQ P qf (.bool false) g false dst oc args rq K s = opsQ P ((⟨dst, oc, args, none⟩, qf) :: rq) K (s.setO g (.bool false)) := by simp [GdQ]
theorem h_sk : GdQ P qf .skip g want dst oc args rq K s = opsQ P rq K (s.put dst .skip) := propext Iff.rfl
theorem gd_split {c : Bool} (h1 : c = true → GdS P (.bool true) g want dst oc args r K s) (h2 : c = false → GdS P (.bool false) g want dst oc args r K s) : GdS P (.bool c) g want dst oc args r K s := by
 cases c
 ·exact h2 rfl
 ·exact h1 rfl
theorem o_mv : OpS P .mv [x] dst r K s = opsWp P r K (s.put dst x) := propext Iff.rfl
theorem p_mv : OpQ P .mv [x] dst rq K s = opsQ P rq K (s.put dst x) := by simp [OpQ, zAh, zAa, opWp]
theorem o_nckP {q : Program} {bk o : Nat} : OpS P (.nck q) [.ptr bk o] dst r K s = opsWp P r K (s.put dst (.ptr bk o)) := by simp [OpS, OcWp, zAa, isPan, opWp, nckIs]
theorem p_nckP {q : Program} {bk o : Nat} : OpQ P (.nck q) [.ptr bk o] dst rq K s = opsQ P rq K (s.put dst (.ptr bk o)) := by simp [OpQ, zAh, zAa, opWp, nckIs]
theorem o_nckI {q : Program} {cs : List D} : OpS P (.nck q) [.ip cs] dst r K s = opsWp P r K (s.put dst (.ip cs)) := by simp [OpS, OcWp, zAa, isPan, opWp, nckIs]
theorem p_nckI {q : Program} {cs : List D} : OpQ P (.nck q) [.ip cs] dst rq K s = opsQ P rq K (s.put dst (.ip cs)) := by simp [OpQ, zAh, zAa, opWp, nckIs]
theorem o_nckG {q : Program} {t m o : Nat} : OpS P (.nck q) [.gp t m o] dst r K s = opsWp P r K (s.put dst (.gp t m o)) := by simp [OpS, OcWp, zAa, isPan, opWp, nckIs]
theorem p_nckG {q : Program} {t m o : Nat} : OpQ P (.nck q) [.gp t m o] dst rq K s = opsQ P rq K (s.put dst (.gp t m o)) := by simp [OpQ, zAh, zAa, opWp, nckIs]
theorem o_nckM {q : Program} {name : String} {t : TypeId} {d : D} : OpS P (.nck q) [.fn (.method name) [.iface t d] []] dst r K s = (nckOk (zB3 q t name) ∧ opsWp P r K (s.put dst (.fn (.method name) [.iface t d] []))) := by simp [OpS, OcWp, zAa, isPan, opWp, nckIs, nckFn_iff]
theorem p_nckM {q : Program} {name : String} {t : TypeId} {d : D} : OpQ P (.nck q) [.fn (.method name) [.iface t d] []] dst rq K s = (nckOk (zB3 q t name) ∧ opsQ P rq K (s.put dst (.fn (.method name) [.iface t d] []))) := by simp [OpQ, zAh, zAa, opWp, nckIs, nckFn_iff]
theorem o_pickT : OpS P .pick [.bool true, x, y] dst r K s = opsWp P r K (s.put dst x) := by simp [OpS, OcWp, zAa, isPan, opWp]
theorem o_pickF : OpS P .pick [.bool false, x, y] dst r K s = opsWp P r K (s.put dst y) := by simp [OpS, OcWp, zAa, isPan, opWp]
theorem p_pickT : OpQ P .pick [.bool true, x, y] dst rq K s = opsQ P rq K (s.put dst x) := by simp [OpQ, zAh, zAa, opWp]
theorem p_pickF : OpQ P .pick [.bool false, x, y] dst rq K s = opsQ P rq K (s.put dst y) := by simp [OpQ, zAh, zAa, opWp]
theorem o_add : OpS P (.bin .add) [.int k a, .int k b] dst r K s = opsWp P r K (s.put dst (.int k (k.wrap (a + b)))) := by simp [OpS, OcWp, zAa, isPan, opWp, binWp]
theorem o_sub : OpS P (.bin .sub) [.int k a, .int k b] dst r K s = opsWp P r K (s.put dst (.int k (k.wrap (a - b)))) := by simp [OpS, OcWp, zAa, isPan, opWp, binWp]
theorem o_mul : OpS P (.bin .mul) [.int k a, .int k b] dst r K s = opsWp P r K (s.put dst (.int k (k.wrap (a * b)))) := by simp [OpS, OcWp, zAa, isPan, opWp, binWp]
theorem o_quo : OpS P (.bin .quo) [.int k a, .int k b] dst r K s = (b ≠ 0 ∧ opsWp P r K (s.put dst (.int k (k.wrap (a.tdiv b))))) := by simp [OpS, OcWp, zAa, isPan, opWp, binWp]
theorem o_rem : OpS P (.bin .rem) [.int k a, .int k b] dst r K s = (b ≠ 0 ∧ opsWp P r K (s.put dst (.int k (a.tmod b)))) := by simp [OpS, OcWp, zAa, isPan, opWp, binWp]
theorem o_and : OpS P (.bin .and) [.int k a, .int k b] dst r K s = opsWp P r K (s.put dst (.int k (bitsV .and k a b))) := by simp [OpS, OcWp, zAa, isPan, opWp, binWp]
theorem o_or : OpS P (.bin .or) [.int k a, .int k b] dst r K s = opsWp P r K (s.put dst (.int k (bitsV .or k a b))) := by simp [OpS, OcWp, zAa, isPan, opWp, binWp]
theorem o_xor : OpS P (.bin .xor) [.int k a, .int k b] dst r K s = opsWp P r K (s.put dst (.int k (bitsV .xor k a b))) := by simp [OpS, OcWp, zAa, isPan, opWp, binWp]
theorem o_shl : OpS P (.bin .shl) [.int k a, .int k' b] dst r K s = (0 ≤ b ∧ opsWp P r K (s.put dst (.int k (k.wrap (a * 2 ^ (min b.toNat k.bits)))))) := by simp [OpS, OcWp, zAa, isPan, opWp, binWp]
theorem o_shr : OpS P (.bin .shr) [.int k a, .int k' b] dst r K s = (0 ≤ b ∧ opsWp P r K (s.put dst (.int k (a.fdiv (2 ^ (min b.toNat k.bits)))))) := by simp [OpS, OcWp, zAa, isPan, opWp, binWp]
theorem o_eql : OpS P (.bin .eql) [.int k a, .int k b] dst r K s = opsWp P r K (s.put dst (.bool (a == b))) := by simp [OpS, OcWp, zAa, isPan, opWp, binWp]
theorem o_neq : OpS P (.bin .neq) [.int k a, .int k b] dst r K s = opsWp P r K (s.put dst (.bool (a != b))) := by simp [OpS, OcWp, zAa, isPan, opWp, binWp]
theorem o_lss : OpS P (.bin .lss) [.int k a, .int k b] dst r K s = opsWp P r K (s.put dst (.bool (decide (a < b)))) := by simp [OpS, OcWp, zAa, isPan, opWp, binWp]
theorem o_leq : OpS P (.bin .leq) [.int k a, .int k b] dst r K s = opsWp P r K (s.put dst (.bool (decide (a ≤ b)))) := by simp [OpS, OcWp, zAa, isPan, opWp, binWp]
theorem o_gtr : OpS P (.bin .gtr) [.int k a, .int k b] dst r K s = opsWp P r K (s.put dst (.bool (decide (b < a)))) := by simp [OpS, OcWp, zAa, isPan, opWp, binWp]
theorem o_geq : OpS P (.bin .geq) [.int k a, .int k b] dst r K s = opsWp P r K (s.put dst (.bool (decide (b ≤ a)))) := by simp [OpS, OcWp, zAa, isPan, opWp, binWp]
theorem p_add : OpQ P (.bin .add) [.int k a, .int k b] dst rq K s = opsQ P rq K (s.put dst (.int k (k.wrap (a + b)))) := by simp [OpQ, zAh, zAa, opWp, binWp]
theorem p_sub : OpQ P (.bin .sub) [.int k a, .int k b] dst rq K s = opsQ P rq K (s.put dst (.int k (k.wrap (a - b)))) := by simp [OpQ, zAh, zAa, opWp, binWp]
theorem p_mul : OpQ P (.bin .mul) [.int k a, .int k b] dst rq K s = opsQ P rq K (s.put dst (.int k (k.wrap (a * b)))) := by simp [OpQ, zAh, zAa, opWp, binWp]
theorem p_quo : OpQ P (.bin .quo) [.int k a, .int k b] dst rq K s = (b ≠ 0 ∧ opsQ P rq K (s.put dst (.int k (k.wrap (a.tdiv b))))) := by simp [OpQ, zAh, zAa, opWp, binWp]
theorem p_rem : OpQ P (.bin .rem) [.int k a, .int k b] dst rq K s = (b ≠ 0 ∧ opsQ P rq K (s.put dst (.int k (a.tmod b)))) := by simp [OpQ, zAh, zAa, opWp, binWp]
theorem p_eql : OpQ P (.bin .eql) [.int k a, .int k b] dst rq K s = opsQ P rq K (s.put dst (.bool (a == b))) := by simp [OpQ, zAh, zAa, opWp, binWp]
theorem p_neq : OpQ P (.bin .neq) [.int k a, .int k b] dst rq K s = opsQ P rq K (s.put dst (.bool (a != b))) := by simp [OpQ, zAh, zAa, opWp, binWp]
theorem p_lss : OpQ P (.bin .lss) [.int k a, .int k b] dst rq K s = opsQ P rq K (s.put dst (.bool (decide (a < b)))) := by simp [OpQ, zAh, zAa, opWp, binWp]
theorem p_leq : OpQ P (.bin .leq) [.int k a, .int k b] dst rq K s = opsQ P rq K (s.put dst (.bool (decide (a ≤ b)))) := by simp [OpQ, zAh, zAa, opWp, binWp]
theorem p_gtr : OpQ P (.bin .gtr) [.int k a, .int k b] dst rq K s = opsQ P rq K (s.put dst (.bool (decide (b < a)))) := by simp [OpQ, zAh, zAa, opWp, binWp]
theorem p_geq : OpQ P (.bin .geq) [.int k a, .int k b] dst rq K s = opsQ P rq K (s.put dst (.bool (decide (b ≤ a)))) := by simp [OpQ, zAh, zAa, opWp, binWp]
theorem o_cat {u v : List UInt8} : OpS P (.bin .add) [.str u, .str v] dst r K s = (u.length + v.length ≤ 4611686018427387904 ∧ opsWp P r K (s.put dst (.str (u ++ v)))) := by simp [OpS, OcWp, zAa, isPan, opWp, binWp]
theorem o_seq {u v : List UInt8} : OpS P (.bin .eql) [.str u, .str v] dst r K s = opsWp P r K (s.put dst (.bool (u == v))) := by simp [OpS, OcWp, zAa, isPan, opWp, binWp]
theorem o_sne {u v : List UInt8} : OpS P (.bin .neq) [.str u, .str v] dst r K s = opsWp P r K (s.put dst (.bool (!(u == v)))) := by simp [OpS, OcWp, zAa, isPan, opWp, binWp]
theorem o_slt {u v : List UInt8} : OpS P (.bin .lss) [.str u, .str v] dst r K s = opsWp P r K (s.put dst (.bool (Op.bytesLess u v))) := by simp [OpS, OcWp, zAa, isPan, opWp, binWp]
theorem p_cat {u v : List UInt8} : OpQ P (.bin .add) [.str u, .str v] dst rq K s = (u.length + v.length ≤ 4611686018427387904 ∧ opsQ P rq K (s.put dst (.str (u ++ v)))) := by simp [OpQ, zAh, zAa, opWp, binWp]
theorem p_seq {u v : List UInt8} : OpQ P (.bin .eql) [.str u, .str v] dst rq K s = opsQ P rq K (s.put dst (.bool (u == v))) := by simp [OpQ, zAh, zAa, opWp, binWp]
theorem p_sne {u v : List UInt8} : OpQ P (.bin .neq) [.str u, .str v] dst rq K s = opsQ P rq K (s.put dst (.bool (!(u == v)))) := by simp [OpQ, zAh, zAa, opWp, binWp]
theorem p_slt {u v : List UInt8} : OpQ P (.bin .lss) [.str u, .str v] dst rq K s = opsQ P rq K (s.put dst (.bool (Op.bytesLess u v))) := by simp [OpQ, zAh, zAa, opWp, binWp]
theorem o_beqF {u v : Bool} : OpS P (.eqB false) [.bool u, .bool v] dst r K s = opsWp P r K (s.put dst (.bool (u == v))) := by simp [OpS, OcWp, zAa, isPan, opWp]
theorem o_beqT {u v : Bool} : OpS P (.eqB true) [.bool u, .bool v] dst r K s = opsWp P r K (s.put dst (.bool (!(u == v)))) := by simp [OpS, OcWp, zAa, isPan, opWp]
theorem p_beqF {u v : Bool} : OpQ P (.eqB false) [.bool u, .bool v] dst rq K s = opsQ P rq K (s.put dst (.bool (u == v))) := by simp [OpQ, zAh, zAa, opWp]
theorem p_beqT {u v : Bool} : OpQ P (.eqB true) [.bool u, .bool v] dst rq K s = opsQ P rq K (s.put dst (.bool (!(u == v)))) := by simp [OpQ, zAh, zAa, opWp]
theorem o_eqA {neg : Bool} {ks : List EK} {u v : List D} : OpS P (.eqA neg ks) [.agg u, .agg v] dst r K s = EqS P neg (eqDs ks u v) dst r K s := by simp [OpS, OcWp, zAa, isPan, opWp, EqS]
theorem p_eqA {neg : Bool} {ks : List EK} {u v : List D} : OpQ P (.eqA neg ks) [.agg u, .agg v] dst rq K s = EqQ P neg (eqDs ks u v) dst rq K s := by simp [OpQ, zAh, zAa, opWp, EqQ]
theorem q_eqSF {c : Bool} : EqS P false (some c) dst r K s = opsWp P r K (s.put dst (.bool c)) := by simp [EqS]
theorem q_eqST {c : Bool} : EqS P true (some c) dst r K s = opsWp P r K (s.put dst (.bool (!c))) := by simp [EqS]
theorem q_eqQF {c : Bool} : EqQ P false (some c) dst rq K s = opsQ P rq K (s.put dst (.bool c)) := by simp [EqQ]
theorem q_eqQT {c : Bool} : EqQ P true (some c) dst rq K s = opsQ P rq K (s.put dst (.bool (!c))) := by simp [EqQ]
theorem o_neg : OpS P (.un .neg) [.int k a] dst r K s = opsWp P r K (s.put dst (.int k (k.wrap (0 - a)))) := by simp [OpS, OcWp, zAa, isPan, opWp, unWp]
theorem p_neg : OpQ P (.un .neg) [.int k a] dst rq K s = opsQ P rq K (s.put dst (.int k (k.wrap (0 - a)))) := by simp [OpQ, zAh, zAa, opWp, unWp]
theorem o_not {c : Bool} : OpS P (.un .not) [.bool c] dst r K s = opsWp P r K (s.put dst (.bool (!c))) := by simp [OpS, OcWp, zAa, isPan, opWp, unWp]
theorem p_not {c : Bool} : OpQ P (.un .not) [.bool c] dst rq K s = opsQ P rq K (s.put dst (.bool (!c))) := by simp [OpQ, zAh, zAa, opWp, unWp]
theorem o_cvI : OpS P (.cvI k) [.int k' a] dst r K s = opsWp P r K (s.put dst (.int k (k.wrap a))) := by simp [OpS, OcWp, zAa, isPan, opWp]
theorem p_cvI : OpQ P (.cvI k) [.int k' a] dst rq K s = opsQ P rq K (s.put dst (.int k (k.wrap a))) := by simp [OpQ, zAh, zAa, opWp]
theorem o_newb {z : List D} : OpS P (.newb z) [] dst r K s = opsWp P r K ({ s with hp := { s.hp with H := s.hp.H ++ [Blk.cells z] } }.put dst (.ptr s.hp.H.length 0)) := by simp [OpS, OcWp, zAa, isPan, opWp]
theorem o_newT {z : List D} {bty : TypeId} : OpS P (.newT bty z) [] dst r K s = opsWp P r K ({ s with hp := { s.hp with H := s.hp.H ++ [Blk.tcells bty z] } }.put dst (.ptr s.hp.H.length 0)) := by simp [OpS, OcWp, zAa, isPan, opWp]
theorem o_eqN {neg : Bool} : OpS P (.eqN neg) [x, .lit (.slice none 0 0)] dst r K s = eqnWp neg x (fun d => opsWp P r K (s.put dst d)) := by simp [OpS, OcWp, zAa, isPan, opWp]
theorem n_nil {neg : Bool} {K : D → Prop} : eqnWp neg (.lit (.slice none 0 0)) K = K (.bool (!neg)) := rfl
theorem n_emp {neg : Bool} {own : Own} {K : D → Prop} : eqnWp neg (.slice [] own) K = ∀ b, K (.bool b) := rfl
theorem n_cons {neg : Bool} {y : D} {ys : List D} {own : Own} {K : D → Prop} : eqnWp neg (.slice (y :: ys) own) K = K (.bool neg) := rfl
theorem n_sl {neg : Bool} {b k off len cap : Nat} {K : D → Prop} : eqnWp neg (.sl b k off len cap) K = K (.bool neg) := rfl
theorem o_box : OpS P .box [x] dst r K s = (x.iV = true ∧ opsWp P r K ({ s with hp := { s.hp with H := s.hp.H ++ [Blk.cells x.cells] } }.put dst (.ptr s.hp.H.length 0))) := by simp [OpS, OcWp, zAa, isPan, opWp]
theorem o_bld {z : List D} {ps : List (Nat × Nat)} : OpS P (.bld z ps) ds dst r K s = BlS P (fillL z ps ds) dst r K s := by simp [OpS, OcWp, zAa, isPan, opWp, BlS]
theorem p_bld {z : List D} {ps : List (Nat × Nat)} : OpQ P (.bld z ps) ds dst rq K s = BlQ P (fillL z ps ds) dst rq K s := by simp [OpQ, zAh, zAa, opWp, BlQ]
theorem q_blS {c : List D} : BlS P (some c) dst r K s = opsWp P r K (s.put dst (.agg c)) := by simp [BlS]
theorem q_blQ {c : List D} : BlQ P (some c) dst rq K s = opsQ P rq K (s.put dst (.agg c)) := by simp [BlQ]
theorem o_ldp {ag : Bool} {n bk off : Nat} : OpS P (.ld ag n) [.ptr bk off] dst r K s = LdS P ag n (s.hp.H[bk]?) off dst r K s := by simp [OpS, OcWp, zAa, isPan, opWp, LdS]
theorem p_ldp {ag : Bool} {n bk off : Nat} : OpQ P (.ld ag n) [.ptr bk off] dst rq K s = LdQ P ag n (s.hp.H[bk]?) off dst rq K s := by simp [OpQ, zAh, zAa, opWp, LdQ]
theorem q_ldST {n off : Nat} {cs : List D} : LdS P true n (some (.cells cs)) off dst r K s = (off + n ≤ cs.length ∧ opsWp P r K (s.put dst (.agg ((cs.drop off).take n)))) := by simp [LdS, Blk.csq, Blk.putc]
theorem q_ldSTt {n off : Nat} {bty : TypeId} {cs : List D} : LdS P true n (some (.tcells bty cs)) off dst r K s = (off + n ≤ cs.length ∧ opsWp P r K (s.put dst (.agg ((cs.drop off).take n)))) := by simp [LdS, Blk.csq, Blk.putc]
theorem q_ldSF {n off : Nat} {cs : List D} : LdS P false n (some (.cells cs)) off dst r K s = (off + n ≤ cs.length ∧ opsWp P r K (s.put dst (cs.getD off .u0))) := by simp [LdS, Blk.csq, Blk.putc]
theorem q_ldSFt {n off : Nat} {bty : TypeId} {cs : List D} : LdS P false n (some (.tcells bty cs)) off dst r K s = (off + n ≤ cs.length ∧ opsWp P r K (s.put dst (cs.getD off .u0))) := by simp [LdS, Blk.csq, Blk.putc]
theorem q_ldQT {n off : Nat} {cs : List D} : LdQ P true n (some (.cells cs)) off dst rq K s = (off + n ≤ cs.length ∧ opsQ P rq K (s.put dst (.agg ((cs.drop off).take n)))) := by simp [LdQ, Blk.csq, Blk.putc]
theorem q_ldQTt {n off : Nat} {bty : TypeId} {cs : List D} : LdQ P true n (some (.tcells bty cs)) off dst rq K s = (off + n ≤ cs.length ∧ opsQ P rq K (s.put dst (.agg ((cs.drop off).take n)))) := by simp [LdQ, Blk.csq, Blk.putc]
theorem q_ldQF {n off : Nat} {cs : List D} : LdQ P false n (some (.cells cs)) off dst rq K s = (off + n ≤ cs.length ∧ opsQ P rq K (s.put dst (cs.getD off .u0))) := by simp [LdQ, Blk.csq, Blk.putc]
theorem q_ldQFt {n off : Nat} {bty : TypeId} {cs : List D} : LdQ P false n (some (.tcells bty cs)) off dst rq K s = (off + n ≤ cs.length ∧ opsQ P rq K (s.put dst (cs.getD off .u0))) := by simp [LdQ, Blk.csq, Blk.putc]
theorem o_ldiT {n : Nat} {cs : List D} : OpS P (.ld true n) [.ip cs] dst r K s = (0 < n ∧ n ≤ cs.length ∧ opsWp P r K (s.put dst (.agg (cs.take n)))) := by simp [OpS, OcWp, zAa, isPan, opWp]
theorem o_ldiF {n : Nat} {cs : List D} : OpS P (.ld false n) [.ip cs] dst r K s = (0 < n ∧ n ≤ cs.length ∧ opsWp P r K (s.put dst (cs.getD 0 .u0))) := by simp [OpS, OcWp, zAa, isPan, opWp]
theorem p_ldiT {n : Nat} {cs : List D} : OpQ P (.ld true n) [.ip cs] dst rq K s = (0 < n ∧ n ≤ cs.length ∧ opsQ P rq K (s.put dst (.agg (cs.take n)))) := by simp [OpQ, zAh, zAa, opWp]
theorem p_ldiF {n : Nat} {cs : List D} : OpQ P (.ld false n) [.ip cs] dst rq K s = (0 < n ∧ n ≤ cs.length ∧ opsQ P rq K (s.put dst (cs.getD 0 .u0))) := by simp [OpQ, zAh, zAa, opWp]
theorem o_stp {n bk off : Nat} : OpS P (.st n) [.ptr bk off, x] dst r K s = StS P n (s.hp.H[bk]?) bk off x dst r K s := by simp [OpS, OcWp, zAa, isPan, opWp, StS]
theorem q_stS {n bk off : Nat} {cs : List D} : StS P n (some (.cells cs)) bk off x dst r K s = (x.iV = true ∧ x.cells.length = n ∧ off + n ≤ cs.length ∧ opsWp P r K ({ s with hp := { s.hp with H := s.hp.H.set bk (.cells (setL cs off x.cells)) } }.put dst .skip)) := by simp [StS, Blk.csq, Blk.putc]
theorem q_stSt {n bk off : Nat} {bty : TypeId} {cs : List D} : StS P n (some (.tcells bty cs)) bk off x dst r K s = (x.iV = true ∧ x.cells.length = n ∧ off + n ≤ cs.length ∧ opsWp P r K ({ s with hp := { s.hp with H := s.hp.H.set bk (.tcells bty (setL cs off x.cells)) } }.put dst .skip)) := by simp [StS, Blk.csq, Blk.putc]
theorem o_fldp {off bk o : Nat} : OpS P (.fld off) [.ptr bk o] dst r K s = opsWp P r K (s.put dst (.ptr bk (o + off))) := by simp [OpS, OcWp, zAa, isPan, opWp]
theorem p_fldp {off bk o : Nat} : OpQ P (.fld off) [.ptr bk o] dst rq K s = opsQ P rq K (s.put dst (.ptr bk (o + off))) := by simp [OpQ, zAh, zAa, opWp]
theorem o_fldi {off : Nat} {cs : List D} : OpS P (.fld off) [.ip cs] dst r K s = opsWp P r K (s.put dst (.ip (cs.drop off))) := by simp [OpS, OcWp, zAa, isPan, opWp]
theorem p_fldi {off : Nat} {cs : List D} : OpQ P (.fld off) [.ip cs] dst rq K s = opsQ P rq K (s.put dst (.ip (cs.drop off))) := by simp [OpQ, zAh, zAa, opWp]
theorem o_fvT {off n : Nat} {cs : List D} : OpS P (.fv true off n) [.agg cs] dst r K s = (off + n ≤ cs.length ∧ opsWp P r K (s.put dst (.agg ((cs.drop off).take n)))) := by simp [OpS, OcWp, zAa, isPan, opWp]
theorem o_fvF {off n : Nat} {cs : List D} : OpS P (.fv false off n) [.agg cs] dst r K s = (off + n ≤ cs.length ∧ opsWp P r K (s.put dst (cs.getD off .u0))) := by simp [OpS, OcWp, zAa, isPan, opWp]
theorem p_fvT {off n : Nat} {cs : List D} : OpQ P (.fv true off n) [.agg cs] dst rq K s = (off + n ≤ cs.length ∧ opsQ P rq K (s.put dst (.agg ((cs.drop off).take n)))) := by simp [OpQ, zAh, zAa, opWp]
theorem p_fvF {off n : Nat} {cs : List D} : OpQ P (.fv false off n) [.agg cs] dst rq K s = (off + n ≤ cs.length ∧ opsQ P rq K (s.put dst (cs.getD off .u0))) := by simp [OpQ, zAh, zAa, opWp]
theorem o_ixaA {len n bk o : Nat} : OpS P (.ixaA len n) [.ptr bk o, .int k a] dst r K s = (0 ≤ a ∧ a < len ∧ opsWp P r K (s.put dst (.ptr bk (o + a.toNat * n)))) := by simp [OpS, OcWp, zAa, isPan, opWp]
theorem p_ixaA {len n bk o : Nat} : OpQ P (.ixaA len n) [.ptr bk o, .int k a] dst rq K s = (0 ≤ a ∧ a < len ∧ opsQ P rq K (s.put dst (.ptr bk (o + a.toNat * n)))) := by simp [OpQ, zAh, zAa, opWp]
theorem o_ixaS {n : Nat} {es : List D} {own : Own} : OpS P (.ixaS n) [.slice es own, .int k a] dst r K s = (0 ≤ a ∧ a < es.length ∧ (es.getD a.toNat .u0).iV = true ∧ (es.getD a.toNat .u0).cells.length = n ∧ opsWp P r K (s.put dst (.ip (es.getD a.toNat .u0).cells))) := by simp [OpS, OcWp, zAa, isPan, opWp]
theorem p_ixaS {n : Nat} {es : List D} {own : Own} : OpQ P (.ixaS n) [.slice es own, .int k a] dst rq K s = (0 ≤ a ∧ a < es.length ∧ (es.getD a.toNat .u0).iV = true ∧ (es.getD a.toNat .u0).cells.length = n ∧ opsQ P rq K (s.put dst (.ip (es.getD a.toNat .u0).cells))) := by simp [OpQ, zAh, zAa, opWp]
theorem o_ixvS {u : List UInt8} : OpS P .ixvS [.str u, .int k a] dst r K s = (0 ≤ a ∧ a < u.length ∧ opsWp P r K (s.put dst (.int .u8 (u.getD a.toNat 0).toNat))) := by simp [OpS, OcWp, zAa, isPan, opWp]
theorem p_ixvS {u : List UInt8} : OpQ P .ixvS [.str u, .int k a] dst rq K s = (0 ≤ a ∧ a < u.length ∧ opsQ P rq K (s.put dst (.int .u8 (u.getD a.toNat 0).toNat))) := by simp [OpQ, zAh, zAa, opWp]
theorem o_slTF {u : List UInt8} : OpS P (.slcS true false) [.str u, .int k a] dst r K s = (0 ≤ a ∧ a ≤ u.length ∧ opsWp P r K (s.put dst (.str (u.drop a.toNat)))) := by simp [OpS, OcWp, zAa, isPan, opWp]
theorem p_slTF {u : List UInt8} : OpQ P (.slcS true false) [.str u, .int k a] dst rq K s = (0 ≤ a ∧ a ≤ u.length ∧ opsQ P rq K (s.put dst (.str (u.drop a.toNat)))) := by simp [OpQ, zAh, zAa, opWp]
theorem o_slFT {u : List UInt8} : OpS P (.slcS false true) [.str u, .int k a] dst r K s = (0 ≤ a ∧ a ≤ u.length ∧ opsWp P r K (s.put dst (.str (u.take a.toNat)))) := by simp [OpS, OcWp, zAa, isPan, opWp]
theorem p_slFT {u : List UInt8} : OpQ P (.slcS false true) [.str u, .int k a] dst rq K s = (0 ≤ a ∧ a ≤ u.length ∧ opsQ P rq K (s.put dst (.str (u.take a.toNat)))) := by simp [OpQ, zAh, zAa, opWp]
theorem o_slTT {u : List UInt8} : OpS P (.slcS true true) [.str u, .int k a, .int k' b] dst r K s = (0 ≤ a ∧ a ≤ b ∧ b ≤ u.length ∧ opsWp P r K (s.put dst (.str ((u.take b.toNat).drop a.toNat)))) := by simp [OpS, OcWp, zAa, isPan, opWp]
theorem p_slTT {u : List UInt8} : OpQ P (.slcS true true) [.str u, .int k a, .int k' b] dst rq K s = (0 ≤ a ∧ a ≤ b ∧ b ≤ u.length ∧ opsQ P rq K (s.put dst (.str ((u.take b.toNat).drop a.toNat)))) := by simp [OpQ, zAh, zAa, opWp]
theorem o_ext {i : Nat} : OpS P (.ext i) [.tup ds] dst r K s = (i < ds.length ∧ opsWp P r K (s.put dst (ds.getD i .u0))) := by simp [OpS, OcWp, zAa, isPan, opWp]
theorem p_ext {i : Nat} : OpQ P (.ext i) [.tup ds] dst rq K s = (i < ds.length ∧ opsQ P rq K (s.put dst (ds.getD i .u0))) := by simp [OpQ, zAh, zAa, opWp]
theorem o_lenS {u : List UInt8} : OpS P .lenS [.str u] dst r K s = opsWp P r K (s.put dst (.int .i64 u.length)) := by simp [OpS, OcWp, zAa, isPan, opWp]
theorem p_lenS {u : List UInt8} : OpQ P .lenS [.str u] dst rq K s = opsQ P rq K (s.put dst (.int .i64 u.length)) := by simp [OpQ, zAh, zAa, opWp]
theorem o_lenL {es : List D} {own : Own} : OpS P .lenL [.slice es own] dst r K s = opsWp P r K (s.put dst (.int .i64 es.length)) := by simp [OpS, OcWp, zAa, isPan, opWp]
theorem p_lenL {es : List D} {own : Own} : OpQ P .lenL [.slice es own] dst rq K s = opsQ P rq K (s.put dst (.int .i64 es.length)) := by simp [OpQ, zAh, zAa, opWp]
theorem o_lenN : OpS P .lenL [.lit (.slice none 0 0)] dst r K s = opsWp P r K (s.put dst (.int .i64 0)) := by simp [OpS, OcWp, zAa, isPan, opWp]
theorem p_lenN : OpQ P .lenL [.lit (.slice none 0 0)] dst rq K s = opsQ P rq K (s.put dst (.int .i64 0)) := by simp [OpQ, zAh, zAa, opWp]
theorem o_min : OpS P .minI (.int k a :: ds) dst r K s = MmS P k (foldI (fun a b => if b < a then b else a) k a ds) dst r K s := by simp [OpS, OcWp, zAa, isPan, opWp, mmWp, MmS]
theorem p_min : OpQ P .minI (.int k a :: ds) dst rq K s = MmQ P k (foldI (fun a b => if b < a then b else a) k a ds) dst rq K s := by simp [OpQ, zAh, zAa, opWp, mmWp, MmQ]
theorem o_minS {a b : List UInt8} : OpS P .minI [.str a, .str b] dst r K s = opsWp P r K (s.put dst (.str (if Op.bytesLess a b || a == b then a else b))) := by simp [OpS, OcWp, zAa, isPan, opWp, mmWp]
theorem o_maxS {a b : List UInt8} : OpS P .maxI [.str a, .str b] dst r K s = opsWp P r K (s.put dst (.str (if Op.bytesLess a b then b else a))) := by simp [OpS, OcWp, zAa, isPan, opWp, mmWp]
attribute [go_sem] o_minS o_maxS
theorem o_max : OpS P .maxI (.int k a :: ds) dst r K s = MmS P k (foldI (fun a b => if b > a then b else a) k a ds) dst r K s := by simp [OpS, OcWp, zAa, isPan, opWp, mmWp, MmS]
theorem p_max : OpQ P .maxI (.int k a :: ds) dst rq K s = MmQ P k (foldI (fun a b => if b > a then b else a) k a ds) dst rq K s := by simp [OpQ, zAh, zAa, opWp, mmWp, MmQ]
theorem q_mmS : MmS P k (some a) dst r K s = opsWp P r K (s.put dst (.int k a)) := by simp [MmS]
theorem q_mmQ : MmQ P k (some a) dst rq K s = opsQ P rq K (s.put dst (.int k a)) := by simp [MmQ]
theorem o_mkI {t : Nat} : OpS P (.mkI t) [x] dst r K s = opsWp P r K (s.put dst (.iface t x)) := by simp [OpS, OcWp, zAa, isPan, opWp]
theorem p_mkI {t : Nat} : OpQ P (.mkI t) [x] dst rq K s = opsQ P rq K (s.put dst (.iface t x)) := by simp [OpQ, zAh, zAa, opWp]
theorem o_mkF {f : Fn} {n : Nat} : OpS P (.mkF f n) ds dst r K s = opsWp P r K (s.put dst (.fn f (ds.take n) (ds.drop n))) := by simp [OpS, OcWp, zAa, isPan, opWp]
theorem p_mkF {f : Fn} {n : Nat} : OpQ P (.mkF f n) ds dst rq K s = opsQ P rq K (s.put dst (.fn f (ds.take n) (ds.drop n))) := by simp [OpQ, zAh, zAa, opWp]
theorem o_lenM {bk n off len cap : Nat} : OpS P .lenL [.sl bk n off len cap] dst r K s = opsWp P r K (s.put dst (.int .i64 len)) := by simp [OpS, OcWp, zAa, isPan, opWp]
theorem p_lenM {bk n off len cap : Nat} : OpQ P .lenL [.sl bk n off len cap] dst rq K s = opsQ P rq K (s.put dst (.int .i64 len)) := by simp [OpQ, zAh, zAa, opWp]
theorem o_lenG {t n : Nat} : OpS P .lenL [.gs t n] dst r K s = opsWp P r K (s.put dst (.int .i64 n)) := by simp [OpS, OcWp, zAa, isPan, opWp]
theorem p_lenG {t n : Nat} : OpQ P .lenL [.gs t n] dst rq K s = opsQ P rq K (s.put dst (.int .i64 n)) := by simp [OpQ, zAh, zAa, opWp]
theorem o_ixaM {n bk n' off len cap : Nat} : OpS P (.ixaS n) [.sl bk n' off len cap, .int k a] dst r K s = (0 ≤ a ∧ a < len ∧ len ≤ cap ∧ n' = n ∧ opsWp P r K (s.put dst (.ptr bk (off + a.toNat * n)))) := by simp [OpS, OcWp, zAa, isPan, opWp]
theorem p_ixaM {n bk n' off len cap : Nat} : OpQ P (.ixaS n) [.sl bk n' off len cap, .int k a] dst rq K s = (0 ≤ a ∧ a < len ∧ len ≤ cap ∧ n' = n ∧ opsQ P rq K (s.put dst (.ptr bk (off + a.toNat * n)))) := by simp [OpQ, zAh, zAa, opWp]
theorem o_ixaG {n t m : Nat} : OpS P (.ixaS n) [.gs t m, .int k a] dst r K s = (0 ≤ a ∧ a < m ∧ opsWp P r K (s.put dst (.gp t m (a.toNat * n)))) := by simp [OpS, OcWp, zAa, isPan, opWp]
theorem p_ixaG {n t m : Nat} : OpQ P (.ixaS n) [.gs t m, .int k a] dst rq K s = (0 ≤ a ∧ a < m ∧ opsQ P rq K (s.put dst (.gp t m (a.toNat * n)))) := by simp [OpQ, zAh, zAa, opWp]
theorem o_fldg {off t m o : Nat} : OpS P (.fld off) [.gp t m o] dst r K s = opsWp P r K (s.put dst (.gp t m (o + off))) := by simp [OpS, OcWp, zAa, isPan, opWp]
theorem p_fldg {off t m o : Nat} : OpQ P (.fld off) [.gp t m o] dst rq K s = opsQ P rq K (s.put dst (.gp t m (o + off))) := by simp [OpQ, zAh, zAa, opWp]
theorem o_ldg {ag : Bool} {n t m off : Nat} : OpS P (.ld ag n) [.gp t m off] dst r K s = LgS P ag n (s.hp.tk[t]?) m off dst r K s := by simp [OpS, OcWp, zAa, isPan, opWp, LgS]
theorem p_ldg {ag : Bool} {n t m off : Nat} : OpQ P (.ld ag n) [.gp t m off] dst rq K s = LgQ P ag n (s.hp.tk[t]?) m off dst rq K s := by simp [OpQ, zAh, zAa, opWp, LgQ]
theorem q_lgST {n k' m off : Nat} {cs : List D} : LgS P true n (some (.chg k' cs)) m off dst r K s = (cs.length = m * k' ∧ off + n ≤ cs.length ∧ opsWp P r K (s.put dst (.agg ((cs.drop off).take n)))) := by
 simp only [LgS, Option.some.injEq, Tv.chg.injEq, if_true]
 exact propext ⟨fun ⟨_, _, ⟨h1, h2⟩, h3, h4, h5⟩ => by subst h1; subst h2; exact ⟨h3, h4, h5⟩, fun ⟨h3, h4, h5⟩ => ⟨_, _, ⟨rfl, rfl⟩, h3, h4, h5⟩⟩
theorem q_lgSF {n k' m off : Nat} {cs : List D} : LgS P false n (some (.chg k' cs)) m off dst r K s = (cs.length = m * k' ∧ off + n ≤ cs.length ∧ opsWp P r K (s.put dst (cs.getD off .u0))) := by
 simp only [LgS, Option.some.injEq, Tv.chg.injEq, Bool.false_eq_true, if_false]
 exact propext ⟨fun ⟨_, _, ⟨h1, h2⟩, h3, h4, h5⟩ => by subst h1; subst h2; exact ⟨h3, h4, h5⟩, fun ⟨h3, h4, h5⟩ => ⟨_, _, ⟨rfl, rfl⟩, h3, h4, h5⟩⟩
theorem q_lgQT {n k' m off : Nat} {cs : List D} : LgQ P true n (some (.chg k' cs)) m off dst rq K s = (cs.length = m * k' ∧ off + n ≤ cs.length ∧ opsQ P rq K (s.put dst (.agg ((cs.drop off).take n)))) := by
 simp only [LgQ, Option.some.injEq, Tv.chg.injEq, if_true]
 exact propext ⟨fun ⟨_, _, ⟨h1, h2⟩, h3, h4, h5⟩ => by subst h1; subst h2; exact ⟨h3, h4, h5⟩, fun ⟨h3, h4, h5⟩ => ⟨_, _, ⟨rfl, rfl⟩, h3, h4, h5⟩⟩
theorem q_lgQF {n k' m off : Nat} {cs : List D} : LgQ P false n (some (.chg k' cs)) m off dst rq K s = (cs.length = m * k' ∧ off + n ≤ cs.length ∧ opsQ P rq K (s.put dst (cs.getD off .u0))) := by
 simp only [LgQ, Option.some.injEq, Tv.chg.injEq, Bool.false_eq_true, if_false]
 exact propext ⟨fun ⟨_, _, ⟨h1, h2⟩, h3, h4, h5⟩ => by subst h1; subst h2; exact ⟨h3, h4, h5⟩, fun ⟨h3, h4, h5⟩ => ⟨_, _, ⟨rfl, rfl⟩, h3, h4, h5⟩⟩
theorem o_stg {n t m off : Nat} : OpS P (.st n) [.gp t m off, x] dst r K s = SgS P n (s.hp.tk[t]?) t m off x dst r K s := by simp [OpS, OcWp, zAa, isPan, opWp, SgS]
theorem q_sgS {n t m off k' : Nat} {cs : List D} : SgS P n (some (.chg k' cs)) t m off x dst r K s = (cs.length = m * k' ∧ x.iV = true ∧ x.cells.length = n ∧ off + n ≤ cs.length ∧ opsWp P r K ({ s with hp := { s.hp with tk := s.hp.tk.set t (.chg k' (setL cs off x.cells)) } }.put dst .skip)) := by
 simp only [SgS, Option.some.injEq, Tv.chg.injEq]
 exact propext ⟨fun ⟨_, _, ⟨h1, h2⟩, h3⟩ => by subst h1; subst h2; exact h3, fun h3 => ⟨_, _, ⟨rfl, rfl⟩, h3⟩⟩
section
variable {es xs : List D} {n bytes : Nat} {ety : TypeId}
theorem s_bsl (he : zAk n ds = true) (hl : ds.length * n ≤ 16777216) (hc : D.cL ds = true) (h : opsWp P r K (s.put dst (.slice (D.erL ds) .full))) : OpS P (.bsl n) ds dst r K s := by
 simp only [OpS, OcWp, zAa, isPan, Bool.false_eq_true, if_false, opWp]; exact ⟨he, hl, .inl ⟨hc, h⟩⟩
theorem zEg {t : Nat} (he : zCn s.hp n x = some es) (hK : zAk n es = true) (hc : D.cL es = true) (hr : zDh (xs.length + es.length) bytes) (hV : s.hp.tk[t]? = some (.per n xs.length))
 (h : opsWp P r K ({ s with hp := { s.hp with tk := s.hp.tk.set t (.per n (xs.length + es.length)) } }.put dst (.slice (xs ++ D.erL es) (.tok t)))) : OpS P (.app n bytes ety) [.slice xs (.tok t), x] dst r K s := by
 simp only [OpS, OcWp, zAa, isPan, Bool.false_eq_true, if_false, opWp]; exact ⟨es, he, hK, hr, hc, hV, h⟩
theorem s_appB {t m : Nat} {bs u : List UInt8} (he : zCn s.hp n x = some es) (hu : zDa es = some u) (hK : zAk n es = true) (hn : n = 1) (hr : zDh (m + es.length) bytes) (hV : s.hp.tk[t]? = some (.byt ety bs)) (hl : bs.length = m)
 (h : opsWp P r K ({ s with hp := { s.hp with tk := s.hp.tk.set t (.byt ety (bs ++ u)) } }.put dst (.gs t (m + es.length)))) : OpS P (.app n bytes ety) [.gs t m, x] dst r K s := by
 simp only [OpS, OcWp, zAa, isPan, Bool.false_eq_true, if_false, opWp]; exact ⟨es, he, hK, hr, .inr ⟨bs, u, hn, hV, hl, hu, h⟩⟩
theorem s_slTF {own : Own} (h0 : 0 ≤ a) (h1 : a ≤ xs.length) (hx : zAk n xs = true) (h : opsWp P r K (s.put dst (.slice (xs.drop a.toNat) .no))) : OpS P (.slcL n true false) [.slice xs own, .int k a] dst r K s := by
 simp only [OpS, OcWp, zAa, isPan, Bool.false_eq_true, if_false, opWp]
 exact ⟨a, xs.length, ⟨rfl, rfl⟩, h0, h1, by simp [dlen], hx, by simpa using h⟩
theorem o_eff {f : FuncId} {first cap ds' : List D} {hp0 : Hp} {R : D → Hp → Prop} (bl tl : List Nat) (h : Eff P f ds' hp0 R) (hs : SelOk s.hp bl tl) (hd : D.rnL (posF bl) (posF tl) (first ++ ds ++ cap) = ds') (hh : s.hp.sel bl tl = hp0)
 (hk : ∀ d hp1, R d hp1 → opsWp P r K ({ s with hp := s.hp.back bl tl hp1 }.put dst (d.rn (bakF bl s.hp.H.length) (bakF tl s.hp.tk.length)))) : OpS P .call (.fn (.func f) first cap :: ds) dst r K s := by
 unfold OpS OcWp
 simp only [zAa, if_true]
 exact zD3 bl tl h hs hd hh hk
end
theorem zAb {f : FuncId} {first cap : List D} {d : D} {ds' : List D} (h : Pur P f ds' d) (he : D.erL (first ++ ds ++ cap) = ds') (hc : D.cL (first ++ ds ++ cap) = true) (hk : opsWp P r K (s.put dst d)) :
 OpS P .call (.fn (.func f) first cap :: ds) dst r K s := by
 unfold OpS OcWp
 simp only [zAa, if_true]
 exact zE5 hc (he ▸ h) hk
theorem zD7 {f : FuncId} {first cap : List D} {d : D} {ds' : List D} (h : Pur P f ds' d) (he : D.erL (first ++ ds ++ cap) = ds') (hc : D.cL (first ++ ds ++ cap) = true) (hk : opsQ P rq K (s.put dst d)) :
 OpC P .call (.fn (.func f) first cap :: ds) dst rq K s := by
 unfold OpC detWp OcWp
 simp only [zAa, if_true]
 exact ⟨d, s.hp, zE5 hc (he ▸ h) ⟨rfl, rfl⟩, hk⟩
theorem zAq {f : FuncId} {first cap : List D} {d : D} {ds' : List D} (h : Pur P f ds' d) (he : D.erL (first ++ ds ++ cap) = ds') (hc : D.cL (first ++ ds ++ cap) = true) (hk : opsQ P rq K (s.put dst d)) :
 OpQ P .call (.fn (.func f) first cap :: ds) dst rq K s := by
 unfold OpQ zAh CallQ
 simp only [zAa, if_true]
 exact ⟨d, zE5 hc (he ▸ h) ⟨rfl, rfl⟩, hk⟩
end
section
variable {P : Mod} {oc : OC} {args : List Opd} {dst : Dst} {r : List RO} {rq : List (RO × Bool)} {qf : Bool} {K : St → Prop} {s : St} {g : Opd} {want : Bool} {C : Cfg} {Q : Ex → St → Prop} {x y : RC}
def CdS (C : Cfg) (b : D) (g : Opd) (x y : RC) (Q : Ex → St → Prop) (s : St) : Prop :=
 match b with
 | .bool t => (t = true → SWp C x Q (s.setO g (.bool true))) ∧ (t = false → SWp C y Q (s.setO g (.bool false)))
 | _ => False
theorem swp_cd (h : CdS C (s.get g) g x y Q s) : SWp C (.cond g x y) Q s := by
 unfold CdS at h
 split at h
 ·rename_i t ht; exact swp_cond ht h.1 h.2
 ·exact h.elim
theorem e_cdT : CdS C (.bool true) g x y Q s = SWp C x Q (s.setO g (.bool true)) := by simp [CdS]
theorem e_cdF : CdS C (.bool false) g x y Q s = SWp C y Q (s.setO g (.bool false)) := by simp [CdS]
theorem cd_split {c : Bool} (h1 : c = true → SWp C x Q (s.setO g (.bool true))) (h2 : c = false → SWp C y Q (s.setO g (.bool false))) : CdS C (.bool c) g x y Q s := ⟨h1, h2⟩
theorem rr_slot {o : Opd} {K : D → Prop} : rrWp (.slot o) s K = K (s.get o) := propext Iff.rfl
def RcS (ag : Bool) (n : Nat) (p : D) (H : List Blk) (K : D → Prop) : Prop :=
 match p with
 | .ptr b off => ∃ cs, H[b]? = some (.cells cs) ∧ off + n ≤ cs.length ∧ K (if ag then .agg ((cs.drop off).take n) else cs.getD off .u0)
 | _ => False
theorem rr_cell {o : Opd} {ag : Bool} {n : Nat} {K : D → Prop} : rrWp (.cell o ag n) s K = RcS ag n (s.get o) s.hp.H K := by
 unfold rrWp RcS; rfl
def RcB (ag : Bool) (n off : Nat) (B : Option Blk) (K : D → Prop) : Prop := ∃ cs, B = some (.cells cs) ∧ off + n ≤ cs.length ∧ K (if ag then .agg ((cs.drop off).take n) else cs.getD off .u0)
theorem rr_ptr {ag : Bool} {n b off : Nat} {H : List Blk} {K : D → Prop} : RcS ag n (.ptr b off) H K = RcB ag n off (H[b]?) K := propext Iff.rfl
theorem rr_T {n off : Nat} {cs : List D} {K : D → Prop} : RcB true n off (some (.cells cs)) K = (off + n ≤ cs.length ∧ K (.agg ((cs.drop off).take n))) := by simp [RcB]
theorem rr_F {n off : Nat} {cs : List D} {K : D → Prop} : RcB false n off (some (.cells cs)) K = (off + n ≤ cs.length ∧ K (cs.getD off .u0)) := by simp [RcB]
theorem rs_nil {K : List D → Prop} : rrsWp [] s K = K [] := propext Iff.rfl
theorem rs_cons {r : RR} {rs : List RR} {K : List D → Prop} : rrsWp (r :: rs) s K = rrWp r s fun d => rrsWp rs s fun ds => K (d :: ds) := propext Iff.rfl
end
theorem w64 {n : Int} (h1 : -9223372036854775808 ≤ n) (h2 : n ≤ 9223372036854775807) : IntKind.i64.wrap n = n := by
 rw [IntKind.wrap_i64]
 omega
attribute [go_sem] o_lenM p_lenM o_lenG p_lenG o_ixaM p_ixaM o_ixaG p_ixaG o_fldg p_fldg o_ldg p_ldg q_lgST q_lgSF q_lgQT q_lgQF o_stg q_sgS
attribute [go_sem] f_stepD zAa qOp
attribute [go_sem] decide_true decide_false o_eqN n_nil n_emp n_cons n_sl e_nil e_step e_guard f_nil f_step f_guard g_tt g_tf g_ft g_ff g_sk h_tt h_tf h_ft h_ff h_sk o_mv p_mv o_pickT o_pickF p_pickT p_pickF o_add o_sub o_mul o_quo o_rem o_and o_or o_xor o_shl o_shr o_eql o_neq o_lss o_leq o_gtr o_geq p_add p_sub p_mul p_quo p_rem p_eql p_neq p_lss p_leq p_gtr p_geq o_cat o_seq o_sne o_slt p_cat p_seq p_sne p_slt o_beqF o_beqT p_beqF p_beqT o_eqA p_eqA q_eqSF q_eqST q_eqQF q_eqQT o_neg p_neg o_not p_not o_cvI p_cvI o_newb o_box o_bld p_bld q_blS q_blQ o_ldp p_ldp o_nckP p_nckP o_nckI p_nckI o_nckG p_nckG o_nckM p_nckM nckOk_some true_and q_ldST q_ldSTt q_ldSFt q_ldQTt q_ldQFt q_stSt o_newT q_ldSF q_ldQT q_ldQF o_ldiT o_ldiF p_ldiT p_ldiF o_stp q_stS o_fldp p_fldp o_fldi p_fldi o_fvT o_fvF p_fvT p_fvF o_ixaA p_ixaA o_ixaS p_ixaS o_ixvS p_ixvS o_slTF p_slTF o_slFT p_slFT o_slTT p_slTT o_ext p_ext o_lenS p_lenS o_lenL p_lenL o_lenN p_lenN o_min p_min o_max p_max q_mmS q_mmQ o_mkI p_mkI o_mkF p_mkF e_cdT e_cdF rr_slot rr_cell rr_ptr rr_T rr_F rs_nil rs_cons
attribute [go_sem] St.get St.put St.setO setK St.done lk List.map_cons List.map_nil List.getD_cons_zero List.getD_cons_succ List.set_cons_zero List.set_cons_succ List.getElem?_cons_zero List.getElem?_cons_succ List.length_cons List.length_nil List.nil_append List.cons_append List.drop_zero List.drop_succ_cons List.take_zero List.take_succ_cons List.drop_nil List.take_nil D.iV D.cells fillL setL eqDs eqD foldI Nat.succ_eq_add_one Nat.le_refl Nat.zero_add Nat.add_zero Int.toNat_natCast ite_true ite_false ne_eq not_false_eq_true not_true_eq_false true_and and_true and_self Bool.false_eq_true Bool.not_true Bool.not_false Bool.and_true Bool.true_and decide_eq_true_eq zAl D.closed D.cL D.er D.erL D.rn D.rnL Own.rn Blk.rn Tv.rn Blk.rnL Tv.rnL Hp.back Hp.sel putAt posF bakF idx flatD zeros
section
variable {P P' : Mod} {C : Cfg} {oc : OC} {args : List Opd} {dst : Dst} {r : List RO} {rq : List (RO × Bool)} {qf : Bool} {K : St → Prop} {s s' : St} {g : Opd} {want ag neg : Bool} {x y : RC} {b b' : D} {ds ds' : List D} {B B' : Option Blk} {off off' n bk bk' : Nat} {v v' : D} {k : IntKind} {Q : Ex → St → Prop}
/- Where simp looks: at the program, the values and the state; never at the code that is still to come. -/
@[congr] theorem cg_ops (h1 : P = P') (h2 : s = s') : opsWp P r K s = opsWp P' r K s' := by rw [h1, h2]
@[congr] theorem cg_opsQ (h1 : P = P') (h2 : s = s') : opsQ P rq K s = opsQ P' rq K s' := by rw [h1, h2]
@[congr] theorem cg_OpS (h1 : P = P') (h2 : ds = ds') (h3 : s = s') : OpS P oc ds dst r K s = OpS P' oc ds' dst r K s' := by rw [h1, h2, h3]
@[congr] theorem cg_OpC (h1 : P = P') (h2 : ds = ds') (h3 : s = s') : OpC P oc ds dst rq K s = OpC P' oc ds' dst rq K s' := by rw [h1, h2, h3]
@[congr] theorem cg_OpQ (h1 : P = P') (h2 : ds = ds') (h3 : s = s') : OpQ P oc ds dst rq K s = OpQ P' oc ds' dst rq K s' := by rw [h1, h2, h3]
@[congr] theorem cg_GdS (h1 : P = P') (h2 : b = b') (h3 : s = s') : GdS P b g want dst oc args r K s = GdS P' b' g want dst oc args r K s' := by rw [h1, h2, h3]
@[congr] theorem cg_GdQ (h1 : P = P') (h2 : b = b') (h3 : s = s') : GdQ P qf b g want dst oc args rq K s = GdQ P' qf b' g want dst oc args rq K s' := by rw [h1, h2, h3]
@[congr] theorem cg_CdS (h2 : b = b') (h3 : s = s') : CdS C b g x y Q s = CdS C b' g x y Q s' := by rw [h2, h3]
@[congr] theorem cg_SWp (h3 : s = s') : SWp C x Q s = SWp C x Q s' := by rw [h3]
@[congr] theorem cg_LdS (h1 : P = P') (h2 : B = B') (h4 : off = off') (h3 : s = s') : LdS P ag n B off dst r K s = LdS P' ag n B' off' dst r K s' := by rw [h1, h2, h3, h4]
@[congr] theorem cg_LdQ (h1 : P = P') (h2 : B = B') (h4 : off = off') (h3 : s = s') : LdQ P ag n B off dst rq K s = LdQ P' ag n B' off' dst rq K s' := by rw [h1, h2, h3, h4]
@[congr] theorem cg_StS (h1 : P = P') (h2 : B = B') (h5 : bk = bk') (h4 : off = off') (h6 : v = v') (h3 : s = s') : StS P n B bk off v dst r K s = StS P' n B' bk' off' v' dst r K s' := by rw [h1, h2, h3, h4, h5, h6]
@[congr] theorem cg_LgS {V V' : Option Tv} {m m' : Nat} (h1 : P = P') (h2 : V = V') (h5 : m = m') (h4 : off = off') (h3 : s = s') : LgS P ag n V m off dst r K s = LgS P' ag n V' m' off' dst r K s' := by rw [h1, h2, h3, h4, h5]
@[congr] theorem cg_LgQ {V V' : Option Tv} {m m' : Nat} (h1 : P = P') (h2 : V = V') (h5 : m = m') (h4 : off = off') (h3 : s = s') : LgQ P ag n V m off dst rq K s = LgQ P' ag n V' m' off' dst rq K s' := by rw [h1, h2, h3, h4, h5]
@[congr] theorem cg_SgS {V V' : Option Tv} {m m' : Nat} (h1 : P = P') (h2 : V = V') (h5 : bk = bk') (h7 : m = m') (h4 : off = off') (h6 : v = v') (h3 : s = s') : SgS P n V bk m off v dst r K s = SgS P' n V' bk' m' off' v' dst r K s' := by rw [h1, h2, h3, h4, h5, h6, h7]
end
end GoV
end
section
set_option linter.unusedSimpArgs false
namespace GoV
open Go Go.RowKit
def varMod (P : Program) (gs : List (Nat × (Array Value → Prop))) : Mod where
 P := P
 amb := fun w r => ∀ p ∈ gs, p.1 ∉ r ∧ ∃ cs e fr, p.2 cs ∧ w.heap[p.1]? = some (.cells cs e fr)
 up := by
  intro w r w' r' h k hr p hp
  obtain ⟨h1, cs, e, fr, h3, h2⟩ := h p hp
  have hlt : p.1 < w.heap.size := by
   rcases Nat.lt_or_ge p.1 w.heap.size with g | g
   ·exact g
   ·rw [Array.getElem?_eq_none g] at h2; cases h2
  refine ⟨fun hm => ?_, cs, e, fr, h3, ?_⟩
  ·rcases hr _ hm with g | g
   ·exact h1 g
   ·omega
  ·rw [k.block _ hlt h1]; exact h2
theorem var_of {P : Program} {gs : List (Nat × (Array Value → Prop))} {w : World} {r : List Nat} (h : (varMod P gs).amb w r) {g : Nat} {p : Array Value → Prop} (hm : (g, p) ∈ gs) : ∃ cs e fr, p cs ∧ w.heap[g]? = some (.cells cs e fr) :=
 (h _ hm).2
theorem tabIs_var {P : Program} {gs : List (Nat × (Array Value → Prop))} {w : World} {r : List Nat} {name : String} {g : Nat} {k : IntKind} {zs : List Int}
 (h : (varMod P gs).amb w r) (hg : P.globalNamed name = some g) (hm : (g, fun cs => cs = (zs.map fun z => Value.int k z).toArray) ∈ gs) : Lib.TabIs P w name k zs := by
 obtain ⟨cs, e, fr, h3, h2⟩ := var_of h hm
 subst h3
 unfold Lib.TabIs World.var?
 rw [hg]
 simp [h2]
theorem gh_nil {w : World} {g : Gh} (h : HeapRel w g ⟨[], []⟩) : g = ⟨[], [], g.I⟩ := by
 have a1 := h.len
 have a2 := h.lent
 obtain ⟨r, tk, I⟩ := g
 have b1 : r = [] := List.eq_nil_of_length_eq_zero a1.symm
 have b2 : tk = [] := List.eq_nil_of_length_eq_zero a2.symm
 subst b1; subst b2; rfl
theorem heap_nil {w : World} {I : Nat → Nat → Prop} (hI : ∀ b o, I b o → b < w.heap.size) : HeapRel w ⟨[], [], I⟩ ⟨[], []⟩ :=
 ⟨rfl, by simp, by simp, by simp, rfl, by simp, by simp, by simp [blks], fun b o h => ⟨hI b o h, by simp⟩⟩
theorem inv_below {w w' : World} {I I' : Nat → Nat → Prop} (h : HeapRel w ⟨[], [], I⟩ ⟨[], []⟩) (hb : Below w.heap.size w w') (h1 : ∀ b o, I b o → I' b o) (h2 : ∀ b o, I' b o → I b o ∨ (w.heap.size ≤ b ∧ b < w'.heap.size)) :
 Inv w ⟨[], [], I⟩ ⟨[], []⟩ w' ⟨[], [], I'⟩ := by
 refine ⟨heap_nil fun b o ho => ?_, ⟨fun b o ho => ⟨h1 b o ho, cell_of_heap (hb.block b (h.imm b o ho).1)⟩, by simp, by simp⟩, ⟨hb.os, hb.tape, hb.output, hb.size, fun b hb' _ => hb.block b hb'⟩, by simp, by simp [blks], fun b o ho => ?_⟩
 ·rcases h2 b o ho with q | q
  ·exact Nat.lt_of_lt_of_le (h.imm b o q).1 hb.size
  ·exact q.2
 ·rcases h2 b o ho with q | q
  ·exact .inl q
  ·exact .inr (.inl q.1)
theorem pur_extM {M : Mod} {f : FuncId} {args : List D} {d : D} {vs : List Value} (hc : zBs M f) (ha : ∀ w g xs, RelL w g args xs → xs = vs)
 (h : ∀ w, M.amb w [] → Calls M.P f vs.toArray w fun e w' => ∃ v, e = .returned v ∧ Below w.heap.size w w' ∧
  ∀ I : Nat → Nat → Prop, ∃ I' : Nat → Nat → Prop, (∀ b o, I b o → I' b o) ∧ (∀ b o, I' b o → I b o ∨ (w.heap.size ≤ b ∧ b < w'.heap.size)) ∧ Rel w' ⟨[], [], I'⟩ d v) : Pur M f args d := by
 refine ⟨hc, fun w g xs hA hH hargs => ?_⟩
 have hg := gh_nil hH
 rw [hg] at hA hH ⊢
 rw [ha w _ xs hargs]
 refine (h w (by simpa [Gh.own, blks] using hA)).mono fun e w' hp => ?_
 obtain ⟨v, rfl, hb, hI⟩ := hp
 obtain ⟨I', h1, h2, h3⟩ := hI g.I
 exact ⟨v, d, ⟨[], []⟩, _, rfl, ⟨rfl, rfl⟩, inv_below hH hb h1 h2, h3⟩
theorem pur_ext {M : Mod} {f : FuncId} {args : List D} {d : D} {vs : List Value} {v : Value} (hc : zBs M f) (ha : ∀ w g xs, RelL w g args xs → xs = vs) (hd : ∀ w g, Rel w g d v)
 (h : ∀ w, M.amb w [] → Calls M.P f vs.toArray w fun e w' => e = .returned v ∧ Below w.heap.size w w') : Pur M f args d := by
 refine pur_extM hc ha fun w hA => (h w hA).mono fun e w' hp => ?_
 obtain ⟨rfl, hb⟩ := hp
 exact ⟨v, rfl, hb, fun I => ⟨I, fun _ _ h => h, fun _ _ h => .inl h, hd _ _⟩⟩
theorem calls_of_pur {M : Mod} {f : FuncId} {args : List D} {d : D} (h : Pur M f args d) {w : World} (hA : M.amb w []) {xs : List Value} (hargs : RelL w ⟨[], [], fun b _ => b < w.heap.size⟩ args xs) :
 Calls M.P f xs.toArray w fun e w' => ∃ v g', e = .returned v ∧ Rel w' g' d v ∧ Below w.heap.size w w' := by
 refine (h.2 w ⟨[], [], fun b _ => b < w.heap.size⟩ xs (by simpa [Gh.own, blks] using hA) (heap_nil fun b o hb => hb) hargs).mono fun e w' hp => ?_
 obtain ⟨v, d', hp', g', rfl, ⟨rfl, rfl⟩, g3, g4⟩ := hp
 exact ⟨v, g', rfl, g4, g3.keeps.os, g3.keeps.tape, g3.keeps.output, g3.keeps.size, fun k hk => g3.keeps.block k hk (by simp [Gh.own, blks])⟩
open Go.Sort in
theorem below_grow {w : World} (k : Nat) (os : Array Obj) : Below w.heap.size w (grow (w.drewN k) os) :=
 ⟨rfl, rfl, rfl, by simp [grow, World.drewN], fun j hj => by
  show (w.heap ++ os)[j]? = w.heap[j]?
  rw [Array.getElem?_append_left hj]⟩
end GoV
end
section
namespace GoV
open Go
def St.keep (ks : List Nat) (s : St) : St := { s with env := keepE ks 0 s.env }
theorem zAu {C : Cfg} {x : RC} {Q : Ex → St → Prop} {s : St} {α : Type} (ks : List Nat) (f : α → St) (inv : α → Prop) (μ : α → Nat) (a0 : α) (h0 : inv a0) (e0 : s.keep ks = f a0)
 (round : ∀ a, inv a → SWp C x (fun e s' => match e with | .normal => ∃ a', inv a' ∧ μ a' < μ a ∧ s'.keep ks = f a' | e => Q e s') (f a)) : SWp C (.loop x) Q s := by
 refine swp_loop (fun n t => ∃ a, inv a ∧ μ a = n ∧ t = f a) (μ a0) ⟨_, zD9 ks, a0, h0, rfl, e0⟩ ?_
 rintro n t ⟨a, h1, rfl, rfl⟩
 refine zCq (round a h1) fun e s' hq => ?_
 cases e
 ·obtain ⟨a', g1, g2, g3⟩ := hq
  exact ⟨s', zAf, _, _, zD9 ks, g2, a', g1, rfl, g3⟩
 all_goals exact ⟨s', zAf, hq⟩
def St.keepG (ks : List Nat) (n m : Nat) (s : St) : St := (s.keep ks).gc n m
theorem zBz {C : Cfg} {x : RC} {Q : Ex → St → Prop} {s : St} {α : Type} (ks : List Nat) (n m : Nat) (hn : C.n0 ≤ n) (hm : C.m0 ≤ m) (f : α → St) (inv : α → Prop) (μ : α → Nat) (a0 : α) (h0 : inv a0) (e0 : s.keepG ks n m = f a0)
 (round : ∀ a, inv a → SWp C x (fun e s' => match e with | .normal => ∃ a', inv a' ∧ μ a' < μ a ∧ s'.keepG ks n m = f a' | e => Q e s') (f a)) : SWp C (.loop x) Q s := by
 have hw : ∀ s : St, Weak C s (s.keepG ks n m) := fun s => zDd (zD9 ks) (zFe n m hn hm)
 refine swp_loop (fun n t => ∃ a, inv a ∧ μ a = n ∧ t = f a) (μ a0) ⟨_, hw s, a0, h0, rfl, e0⟩ ?_
 rintro k t ⟨a, h1, rfl, rfl⟩
 refine zCq (round a h1) fun e s' hq => ?_
 cases e
 ·obtain ⟨a', g1, g2, g3⟩ := hq
  exact ⟨s', zAf, _, _, hw s', g2, a', g1, rfl, g3⟩
 all_goals exact ⟨s', zAf, hq⟩
theorem w32 {n : Int} (h1 : -2147483648 ≤ n) (h2 : n ≤ 2147483647) : IntKind.i32.wrap n = n := by rw [IntKind.wrap_i32]; omega
theorem wu8 {n : Int} (h1 : 0 ≤ n) (h2 : n ≤ 255) : IntKind.u8.wrap n = n := by rw [IntKind.wrap_u8]; omega
theorem wu16 {n : Int} (h1 : 0 ≤ n) (h2 : n ≤ 65535) : IntKind.u16.wrap n = n := by
 have : IntKind.u16.wrap n = n % 65536 := by simp [IntKind.wrap, IntKind.bits, IntKind.signed]
 rw [this]; omega
theorem wu32 {n : Int} (h1 : 0 ≤ n) (h2 : n ≤ 4294967295) : IntKind.u32.wrap n = n := by rw [IntKind.wrap_u32]; omega
theorem wu64 {n : Int} (h1 : 0 ≤ n) (h2 : n ≤ 18446744073709551615) : IntKind.u64.wrap n = n := by
 have : IntKind.u64.wrap n = n % 18446744073709551616 := by simp [IntKind.wrap, IntKind.bits, IntKind.signed]
 rw [this]; omega
theorem lN1 {α : Type} {a : α} {l : List α} : (a :: l).length = l.length + 1 := List.length_cons
theorem lN2 {α : Type} : ([] : List α).length = 0 := List.length_nil
theorem lN3 {α : Type} {a b : List α} : (a ++ b).length = a.length + b.length := List.length_append
theorem lN4 {α β : Type} {f : α → β} {l : List α} : (l.map f).length = l.length := List.length_map f
theorem lN5 {α : Type} {n : Nat} {a : α} : (List.replicate n a).length = n := List.length_replicate
theorem lN6 {α : Type} {n : Nat} {l : List α} : (l.take n).length = min n l.length := List.length_take
theorem lN7 {α : Type} {n : Nat} {l : List α} : (l.drop n).length = l.length - n := List.length_drop
theorem lN : (∀ {α : Type} {a : α} {l : List α}, (a :: l).length = l.length + 1) ∧ (∀ {α : Type}, ([] : List α).length = 0) ∧ (∀ {α : Type} {a b : List α}, (a ++ b).length = a.length + b.length) ∧ (∀ {α β : Type} {f : α → β} {l : List α}, (l.map f).length = l.length) ∧ (∀ {α : Type} {n : Nat} {a : α}, (List.replicate n a).length = n) ∧ (∀ {α : Type} {n : Nat} {l : List α}, (l.take n).length = min n l.length) ∧ (∀ {α : Type} {n : Nat} {l : List α}, (l.drop n).length = l.length - n) := ⟨lN1, lN2, lN3, lN4, lN5, lN6, lN7⟩
end GoV
end
section
namespace GoV
open Go Go.RowKit Go.ChangeShapes
theorem keptBut_of_below {W W' : World} {may : MemPlace → Prop} (h : Below W.heap.size W W') : W.keptBut W' may := by
 refine ⟨h.os, h.output, fun i hi => ?_⟩
 rw [h.block i hi]
 split <;> simp_all
theorem post_of_below {P : Program} {H : Type} {enc : TypeId × Value → H} {f : Func} {s : ChangeSpec} {apart fresh handsOn again : Bool} {W W' : World} {args : Array Value} {v : Value} {ds gs : List (DataW H)} {before pa pv : List MemPlace}
 (hW : DataW.Whole enc P f.params.toList s.vars apart W args.toList ds gs before)
 (hres : ∀ (b : Nat) (sp : Nat → Bool) (hd : Bool), DataW.TrodAll enc P W' b sp hd f.resultTypes.toList (v.resultList f.resultTypes.size) (s.fn H (ds ++ gs)).results [])
 (hargs : ∀ sp : Nat → Bool, (∀ p ∈ before, sp p.block = true) → DataW.TrodAll enc P W' 0 sp true f.params.toList args.toList (s.fn H (ds ++ gs)).args pa)
 (hvars : ∀ sp : Nat → Bool, (∀ p ∈ before, sp p.block = true) → DataW.TrodVars enc P W' sp s.vars (s.fn H (ds ++ gs)).vars pv)
 (hps : before = pa ++ pv) (hb : Below W.heap.size W W')
 (hok : ∀ (j : Nat) (t : TypeId) (r : Value), f.resultTypes[j]? = some t → (v.resultList f.resultTypes.size)[j]? = some r → Value.okWide P W' .any 0 t r) :
 s.post enc P f apart fresh handsOn again W args v W' := by
 have hlt : ∀ p ∈ before, p.block < W.heap.size := fun p hp => hW.lt p hp
 have hold : ∀ p ∈ before, (fun b => decide (b < W.heap.size)) p.block = true := fun p hp => by simpa using hW.lt p hp
 refine ⟨ds, gs, before, [], pa, pv, hW, hres _ _ _, hargs _ hold, hvars _ hold, World.keptBut_mono (fun p hp => ⟨hp, ?_⟩) (keptBut_of_below (may := (· ∈ before)) hb), fun _ => ?_⟩
 ·rw [hps, List.mem_append] at hp
  exact Or.inr hp
 ·obtain ⟨_, _, _, _, _, hz, hn⟩ := hW
  refine ⟨hok, _, _, ([] ++ pa) ++ pv, ⟨[] ++ pa, pv, trodAll_append (hargs _ (fun _ _ => rfl)) (hres _ _ _), hvars _ (fun _ _ => rfl), rfl, ?_, ?_⟩, ?_⟩
  ·intro b off hp
   have hp' : MemPlace.cell b off ∈ before := by rw [hps]; simpa using hp
   have hl : b < W.heap.size := hlt _ hp'
   have e : W'.frozen? ⟨b, off, none⟩ = W.frozen? ⟨b, off, none⟩ := by
    simp only [World.frozen?, hb.block b hl]
   rw [e]
   exact hz b off hp'
  ·intro ha
   have := hn ha
   rw [hps] at this
   simpa using this
  ·intro p hp _
   rw [hps]
   simpa using hp
theorem int_bounds {n : Int} (h : (Lit.int .i64 n).wf = true) : -9223372036854775808 ≤ n ∧ n ≤ 9223372036854775807 := by
 simp [Lit.wf] at h
 exact h
end GoV
end
section
set_option linter.unusedSimpArgs false
set_option linter.unusedVariables false
set_option maxHeartbeats 1000000
namespace GoV
open Go
def noCells : Obj → Bool
 | .cells .. => false
 | _ => true
structure Turn (w w' : World) (D : Nat) : Prop where
 os : w'.os = w.os
 tape : w'.tape = w.tape
 output : w'.output = w.output
 size : w'.heap.size = w.heap.size
 block : ∀ b, b ≠ D → w'.heap[b]? = w.heap[b]?
 cell : ∀ o, w'.cell? ⟨D, o, none⟩ = w.cell? ⟨D, o, none⟩
theorem cell_noCells {w : World} {D : Nat} {o : Obj} (h : w.heap[D]? = some o) (ho : noCells o = true) (i : Nat) : w.cell? ⟨D, i, none⟩ = none := by
 unfold World.cell?
 simp only [h]
 cases o <;> simp_all [noCells]
theorem Turn.put {w : World} {D : Nat} {o o' : Obj} (h : w.heap[D]? = some o) (h1 : noCells o = true) (h2 : noCells o' = true) : Turn w (w.putObj D o') D := by
 have hlt : D < w.heap.size := (Array.getElem?_eq_some_iff.1 h).1
 refine ⟨rfl, rfl, rfl, by simp [World.putObj], fun b hb => World.putObj_heap_other hb, fun i => ?_⟩
 rw [cell_noCells h h1, cell_noCells (World.putObj_heap_same hlt) h2]
theorem Turn.evo {w w' : World} {D : Nat} (h : Turn w w' D) (g : Gh) : Evo w g w' g := by
 refine ⟨fun b o hi => ⟨hi, ?_⟩, fun _ _ h => h, fun _ T h => ⟨T, h, rfl, .inl rfl⟩⟩
 by_cases e : b = D
 ·subst e; exact h.cell o
 ·exact cell_of_heap (h.block b e)
theorem Turn.heap {w w' : World} {D : Nat} (h : Turn w w' D) {g : Gh} {hp : Hp} (hD : D ∉ g.own) (hh : HeapRel w g hp) : HeapRel w' g hp :=
 hh.other (h.evo g) rfl rfl (fun n hn => h.block n fun e => hD (e ▸ hn)) (Nat.le_of_eq h.size.symm) fun b o ho => .inl ho
theorem Turn.inv {w w' : World} {D : Nat} (h : Turn w w' D) {w0 : World} {B g : Gh} {hp : Hp} (hD : D ∉ g.own) (hlt : w0.heap.size ≤ D) (hi : Inv w0 B hp w g) : Inv w0 B hp w' g := by
 refine ⟨h.heap hD hi.heap, hi.evo.trans (h.evo g), ?_, hi.newr, hi.newt, hi.i1⟩
 exact ⟨h.os.trans hi.keeps.os, h.tape.trans hi.keeps.tape, h.output.trans hi.keeps.output, by rw [h.size]; exact hi.keeps.size,
  fun b hb hn => (h.block b (by omega)).trans (hi.keeps.block b hb hn)⟩
theorem Inv.refl' {w : World} {g : Gh} {hp : Hp} (h : HeapRel w g hp) : Inv w g hp w g :=
 ⟨h, Evo.refl _ _, Keeps.refl _ _, fun _ h => .inl h, fun _ h => .inl h, fun _ _ h => .inl h⟩
theorem Inv.join {w0 w1 w : World} {B B1 G : Gh} {hp1 hp : Hp} (h : Inv w0 B hp1 w1 B1) (k : Inv w1 B1 hp w G) : Inv w0 B hp w G := by
 have hsz := h.keeps.size
 refine ⟨k.heap, h.evo.trans k.evo, h.keeps.trans' k.keeps h.new, fun n hn => ?_, fun n hn => ?_, fun b o ho => ?_⟩
 ·rcases k.newr n hn with q | q
  ·exact h.newr n q
  ·exact .inr (Nat.le_trans hsz q)
 ·rcases k.newt n hn with q | q
  ·exact h.newt n q
  ·exact .inr (Nat.le_trans hsz q)
 ·rcases k.i1 b o ho with q | q | q
  ·exact h.i1 b o q
  ·exact .inr (.inl (Nat.le_trans hsz q))
  ·rcases h.newt b q with p | p
   ·exact .inr (.inr p)
   ·exact .inr (.inl p)
def yldD (l : Nat) : D := .lit (.func (.yield l) #[] #[])
def Mod.with (M : Mod) (b : World → Gh → Prop) : Mod := { M with base := b }
theorem zA8 {M : Mod} {f : FuncId} {args : List D} {d : D} (h : Pur M f args d) (b : World → Gh → Prop) : Pur (M.with b) f args d := h
theorem zEj {C C' : Cfg} (h2 : C.pers = C'.pers) (h3 : C.nt = C'.nt) (x : Operand) : resO C x = resO C' x := by
 cases x <;> simp only [resO, h2, h3]
theorem resOs_same {C C' : Cfg} (h2 : C.pers = C'.pers) (h3 : C.nt = C'.nt) : ∀ l : List Operand, resOs C l = resOs C' l
 | [] => rfl
 | x :: l => by simp only [resOs, zEj h2 h3 x, resOs_same h2 h3 l]
theorem resDst_same {C C' : Cfg} (h2 : C.pers = C'.pers) (h3 : C.nt = C'.nt) (x : Option Nat) : zBq C x = zBq C' x := by
 cases x <;> simp only [zBq, h2, h3]
theorem resDsts_same {C C' : Cfg} (h2 : C.pers = C'.pers) (h3 : C.nt = C'.nt) : ∀ l : List Nat, zB2 C l = zB2 C' l
 | [] => rfl
 | x :: l => by simp only [zB2, resDst_same h2 h3 (some x), resDsts_same h2 h3 l]
theorem resGuard_same {C C' : Cfg} (h2 : C.pers = C'.pers) (h3 : C.nt = C'.nt) (ops : Array Oper) (x : Option (Nat × Bool)) : zBp C ops x = zBp C' ops x := by
 cases x with
 | none => rfl
 | some p =>
   obtain ⟨j, want⟩ := p
   simp only [zBp]
   split
   ·rw [zEj h2 h3]
   ·rfl
theorem resOp1_same {C C' : Cfg} (h1 : C.P = C'.P) (h2 : C.pers = C'.pers) (h3 : C.nt = C'.nt) (ops : Array Oper) (o : Oper) : zCy C ops o = zCy C' ops o := by
 simp only [zCy, h1, resOs_same h2 h3, resDst_same h2 h3, resGuard_same h2 h3]
theorem zFm {C C' : Cfg} (h1 : C.P = C'.P) (h2 : C.pers = C'.pers) (h3 : C.nt = C'.nt) (ops : Array Oper) : ∀ l : List Nat, zA7 C ops l = zA7 C' ops l
 | [] => rfl
 | i :: l => by simp only [zA7, resOp1_same h1 h2 h3, zFm h1 h2 h3 ops l]
theorem zA2 {C C' : Cfg} (h1 : C.P = C'.P) (h2 : C.pers = C'.pers) (h3 : C.nt = C'.nt) : ∀ c : Code, zAe C c = zAe C' c
 | .skip => rfl
 | .label _ => rfl
 | .region _ ops false => by simp only [zAe, zFm h1 h2 h3]
 | .region _ ops true => by simp only [zAe, zFm h1 h2 h3, h1]
 | .seq a b => by simp only [zAe, zA2 h1 h2 h3 a, zA2 h1 h2 h3 b]
 | .cond c a b => by simp only [zAe, zEj h2 h3 c, zA2 h1 h2 h3 a, zA2 h1 h2 h3 b]
 | .block id b => by simp only [zAe, zA2 h1 h2 h3 b]
 | .loop b => by simp only [zAe, zA2 h1 h2 h3 b]
 | .exit _ => rfl
 | .ret => rfl
 | .rangeFunc g ps a b => by simp only [zAe, zEj h2 h3 g, resDsts_same h2 h3, zA2 h1 h2 h3 a, zA2 h1 h2 h3 b]
 | .goto _ => rfl
 | .scope b => by simp only [zAe, zA2 h1 h2 h3 b]
 | .refuse _ => rfl
theorem zCd {C C' : Cfg} {c : Code} {rc : RC} (h : zAe C' c = some rc) (h1 : C.P = C'.P) (h2 : C.pers = C'.pers) (h3 : C.nt = C'.nt) : zAe C c = some rc := (zA2 h1 h2 h3 c).trans h
def Cfg.atB (C : Cfg) (b : World → Gh → Prop) (hp : Hp) : Cfg := { M := C.M.with b, pers := C.pers, nt := C.nt, n0 := hp.H.length, m0 := hp.tk.length }
theorem atB_M {C : Cfg} {b : World → Gh → Prop} {hp : Hp} : (C.atB b hp).M = C.M.with b := rfl
def mark (D : Nat) : Deferred := { target := .collected D, args := #[] }
def SimT (C : Cfg) (n m : Nat) (w0 : World) (B : Gh) (s : St) (a : Act) (w : World) : Prop :=
 ∃ w1 B1 hp1, ∃ Ds : List Nat, Inv w0 B hp1 w1 B1 ∧ Ds.Nodup ∧ (∀ D ∈ Ds, w1.heap[D]? = some (.deferred (some [])) ∧ D ∉ B1.own ∧ w0.heap.size ≤ D) ∧
  Sim { C with n0 := n, m0 := m, dfs := Ds.map mark } w1 B1 s a w
def LiftT (C : Cfg) (w0 : World) (B : Gh) (Q : Ex → Nat → Nat → St → Prop) : Exit → Act → World → Prop
 | .normal, a, w => ∃ n m s, SimT C n m w0 B s a w ∧ Q .normal n m s
 | .exit i, a, w => ∃ n m s, SimT C n m w0 B s a w ∧ Q (.exit i) n m s
 | .ret, a, w => ∃ n m s, SimT C n m w0 B s a w ∧ Q .ret n m s
 | .panic ch, _, w => ∃ w1 B1, PanPost C.M w1 B1 (.panicked ch) w
 | _, _, _ => False
structure TWp (C : Cfg) (n m : Nat) (rc : RC) (Q : Ex → Nat → Nat → St → Prop) (s : St) : Prop where
 run : ∀ c, zAe C c = some rc → ∀ w0 B, C.M.start w0 B → ∀ a w, SimT C n m w0 B s a w → c.wpIn Fence.wide 0 C.P (LiftT C w0 B Q) a w
section
variable {C : Cfg} {n m : Nat} {Q : Ex → Nat → Nat → St → Prop} {s : St}
theorem start_up (hbs : ∀ w g, C.M.base w g) {w0 : World} {B : Gh} (hA : C.M.start w0 B) {hp1 w1 B1} (hi : Inv w0 B hp1 w1 B1) : C.M.start w1 B1 :=
 ⟨C.M.up _ _ _ _ hA.1 hi.keeps hi.new, hbs _ _⟩
theorem twp_of {rc : RC} (hbs : ∀ w g, C.M.base w g) (h : ∀ ds, SWp { C with n0 := n, m0 := m, dfs := ds } rc (fun e s => Q e n m s) s) : TWp C n m rc Q s := by
 refine ⟨fun c hc w0 B hA a w hs => ?_⟩
 obtain ⟨w1, B1, hp1, Ds, h1, h2, h3, h4⟩ := hs
 have := (h (Ds.map mark)).run c (zCd hc rfl rfl rfl) w1 B1 (start_up hbs hA h1) a w h4 none
 refine wpIn_mono this fun e a' w' hl => ?_
 cases e <;> simp only [Lift, LiftT] at hl ⊢ <;> first | exact ⟨_, _, hl.2⟩ | (obtain ⟨s', g1, g2⟩ := hl; exact ⟨n, m, s', ⟨w1, B1, hp1, Ds, h1, h2, h3, g1⟩, g2⟩)
theorem twp_weak {rc : RC} {s1 : St} (h : ∀ ds, Weak { C with n0 := n, m0 := m, dfs := ds } s s1) (g : TWp C n m rc Q s1) : TWp C n m rc Q s :=
 ⟨fun c hc w0 B hA a w hs => g.run c hc w0 B hA a w (by
  obtain ⟨w1, B1, hp1, Ds, h1, h2, h3, h4⟩ := hs
  exact ⟨w1, B1, hp1, Ds, h1, h2, h3, h _ _ _ _ _ h4⟩)⟩
theorem twp_seq {x y : RC} (h : TWp C n m x (fun e n' m' s' => match e with | .normal => TWp C n' m' y Q s' | e => Q e n' m' s') s) : TWp C n m (.seq x y) Q s := by
 refine ⟨fun c hc w0 B hA a w hs => ?_⟩
 have hreg : ∀ id ops d, c = .region id ops d → _ := fun id ops d e => zAp (e ▸ hc)
 cases c <;> (try simp only [zAe] at hc) <;> (try (cases hc; done))
 case seq ca cb =>
  cases ha : zAe C ca with
  | none => simp [ha] at hc
  | some p =>
    cases hb : zAe C cb with
    | none => simp [ha, hb] at hc
    | some q =>
      simp [ha, hb] at hc
      obtain ⟨rfl, rfl⟩ := hc
      refine wpIn_seq (wpIn_mono (h.run ca ha w0 B hA a w hs) fun e a' w' hl => ?_)
      cases e <;> simp only [LiftT, Exit.then] at hl ⊢ <;> try exact hl
      obtain ⟨n', m', s', h1, h2⟩ := hl
      exact h2.run cb hb w0 B hA a' w' h1
 case region _ ops d => exfalso; have := hreg _ _ _ rfl; simp at this
 all_goals exfalso; (repeat' split at hc) <;> simp_all
theorem twp_block {id : Nat} {x : RC} (h : TWp C n m x (fun e n' m' s' => match e with | .exit i => if i = id then Q .normal n' m' s' else Q (.exit i) n' m' s' | e => Q e n' m' s') s) : TWp C n m (.block id x) Q s := by
 refine ⟨fun c hc w0 B hA a w hs => ?_⟩
 have hreg : ∀ id ops d, c = .region id ops d → _ := fun id ops d e => zAp (e ▸ hc)
 cases c <;> (try simp only [zAe] at hc) <;> (try (cases hc; done))
 case block i cb =>
  cases hb : zAe C cb with
  | none => simp [hb] at hc
  | some q =>
    simp [hb] at hc
    obtain ⟨rfl, rfl⟩ := hc
    refine wpIn_block (wpIn_mono (h.run cb hb w0 B hA a w hs) fun e a' w' hl => ?_)
    cases e <;> simp only [LiftT, Exit.inBlock] at hl ⊢ <;> try exact hl
    obtain ⟨n', m', s', h1, h2⟩ := hl
    split at h2
    ·rename_i e; rw [if_pos e]; exact ⟨n', m', s', h1, h2⟩
    ·rename_i e; rw [if_neg e]; exact ⟨n', m', s', h1, h2⟩
 case region _ ops d => exfalso; have := hreg _ _ _ rfl; simp at this
 all_goals exfalso; (repeat' split at hc) <;> simp_all
def binds : List Dst → List D → St → St
 | p :: ps, d :: ds, s => binds ps ds (s.put p d)
 | _, _, s => s
theorem binds_rel {w : World} {G : Gh} : ∀ (pl : List Nat) (ps : List Dst) (ds : List D) (vs : List Value) (s : St) (a : Act), zB2 C pl = some ps → RelL w G ds vs → ds.length = ps.length →
 (∀ t, Rel w G (s.slot C.pers t) (a.tmps.getD t Go.undef)) → a.tmps.size = C.nt → s.env.length = C.pers.length →
 (∀ t, Rel w G ((binds ps ds s).slot C.pers t) (((pl.zip vs).foldl (fun (tm : Array Value) (p : Nat × Value) => tm.setIfInBounds p.1 p.2) a.tmps).getD t Go.undef)) ∧
  ((pl.zip vs).foldl (fun (tm : Array Value) (p : Nat × Value) => tm.setIfInBounds p.1 p.2) a.tmps).size = C.nt ∧ (binds ps ds s).env.length = C.pers.length ∧ (binds ps ds s).hp = s.hp
 | [], ps, ds, vs, s, a, hr, hv, hl, h1, h2, h3 => by
   simp [zB2] at hr; subst hr
   simp at hl; subst hl
   exact ⟨h1, h2, h3, rfl⟩
 | t :: pl, ps, ds, vs, s, a, hr, hv, hl, h1, h2, h3 => by
   simp only [zB2] at hr
   cases hp : zBq C (some t) with
   | none => simp [hp] at hr
   | some p =>
     cases hq : zB2 C pl with
     | none => simp [hp, hq] at hr
     | some qs =>
       simp [hp, hq] at hr; subst hr
       cases ds with
       | nil => simp at hl
       | cons d ds =>
         obtain ⟨v, vs, rfl, hv1, hv2⟩ := hv.inv
         have key := put_rel (a := a) h1 h2 h3 hp hv1
         obtain ⟨g1, g2, g3, g4⟩ := binds_rel pl qs ds vs (s.put p d) (a.put (some t) v) hq hv2 (by simpa using hl) key (by rw [zA5]; exact h2) (by rw [zBb]; exact h3)
         simp only [binds, List.zip_cons_cons, List.foldl_cons]
         exact ⟨g1, g2, g3, by rw [g4, zC5]⟩
theorem zE7 : ∀ (pl : List Nat) (ps : List Dst), zB2 C pl = some ps → ps.length = pl.length
 | [], ps, h => by simp [zB2] at h; subst h; rfl
 | t :: pl, ps, h => by
   simp only [zB2] at h
   cases hp : zBq C (some t) with
   | none => simp [hp] at h
   | some p =>
     cases hq : zB2 C pl with
     | none => simp [hp, hq] at h
     | some qs => simp [hp, hq] at h; subst h; simp [zE7 pl qs hq]
theorem leaves_marks {P : Program} {fn : Func} {tmps : Array Value} {R : Ending → World → Prop} (J : World → Prop) (hend : ∀ w, J w → LeavesIn Fence.wide 0 P fn tmps R [] .returning w) :
 ∀ (Ds : List Nat) (w : World), Ds.Nodup → (∀ D ∈ Ds, w.heap[D]? = some (.deferred (some []))) → (∀ w w' D, D ∈ Ds → J w → Turn w w' D → J w') → J w → LeavesInM Fence.wide 0 P fn tmps R (Ds.map mark) .returning w
 | [], w, _, _, _, h => hend w h
 | D :: Ds, w, hn, hk, hJ, h => by
   obtain ⟨hn1, hn2⟩ := List.nodup_cons.1 hn
   have h0 := hk D (List.mem_cons_self ..)
   have t := Turn.put (o' := .deferred none) h0 rfl rfl
   refine ⟨by simp, .inl ⟨D, _, rfl, run_takeDeferred h0, leaves_marks J hend Ds _ hn2 (fun E hE => ?_) (fun w w' E hE => hJ w w' E (List.mem_cons_of_mem _ hE)) (hJ _ _ D (List.mem_cons_self ..) h t)⟩⟩
   rw [t.block E (fun e => hn1 (e ▸ hE))]
   exact hk E (List.mem_cons_of_mem _ hE)
theorem eff_of_bodyT {C : Cfg} {f : FuncId} {fn : Func} {c : Code} {rc : RC} {rs : List RR} (hf : C.P.funcs[f]? = some fn) (hb : fn.body = some c) (hnt : fn.ntmps = C.nt) (hrc : zAe C c = some rc) (hrs : resRs C fn.results.toList = some rs)
 {args : List D} {hp : Hp} {R : D → Hp → Prop} (hname : (fn.name == "runtime.NumGoroutine") = false) (hpl : C.pers.take args.length = List.range args.length) (hlt : args.length ≤ C.nt) (hn0 : C.n0 = hp.H.length) (hm0 : C.m0 = hp.tk.length)
 (h : TWp C hp.H.length hp.tk.length rc (fun e n m s => (match e with | .exit _ => False | _ => True) ∧ ∃ s1, (∀ ds, Weak { C with n0 := n, m0 := m, dfs := ds } s s1) ∧ rrsWp rs s1 fun ds => R (zAl ds) s1.hp) (St.init C args hp))
 (hbs : ∀ w g, C.M.base w g := by exact fun _ _ => trivial) (hpan : ∀ d hp, ¬ C.M.pan d hp := by exact fun _ _ h => h) : Eff C.M f args hp R := by
 refine ⟨⟨fn, hf, by simp [hb], hname⟩, fun w g xs hA hH hargs => ?_⟩
 refine (callsIn_wide (n := 0)).1 (callsIn_of_wp_marks (F := Fence.wide) (n := 0) hf hb trivial ?_ rfl)
 have hsim := zD0 (C := { C with n0 := hp.H.length, m0 := hp.tk.length, dfs := [] }) hnt hpl hlt rfl rfl rfl hH hargs
 refine wpIn_mono (h.run c hrc w g ⟨hA, hbs _ _⟩ _ w ⟨w, g, hp, [], Inv.refl' hH, List.nodup_nil, by simp, hsim⟩) fun e a' w' hl => ?_
 have fin : ∀ n m s, SimT C n m w g s a' w' → (∃ s1, (∀ ds, Weak { C with n0 := n, m0 := m, dfs := ds } s s1) ∧ rrsWp rs s1 fun ds => R (zAl ds) s1.hp) →
  LeavesInM Fence.wide 0 C.P fn a'.tmps (Post w g R) a'.defers .returning w' := by
  intro n m s hs hrr
  obtain ⟨s1, hw, hrr⟩ := hrr
  obtain ⟨w1, B1, hp1, Ds, h1, h2, h3, h4⟩ := hs
  obtain ⟨G, g0, gb, g1, g2, g3, g4⟩ := hw _ _ _ _ _ h4
  rw [g2]
  refine leaves_marks (fun w2 => Inv w g s1.hp w2 G ∧ ∀ t, Rel w2 G (s1.slot C.pers t) (a'.tmps.getD t Go.undef)) ?_ Ds w' h2 (fun D hD => ?_) ?_ ⟨h1.join g0, g4⟩
  ·rintro w2 ⟨j1, j2⟩
   obtain ⟨ds, v, k1, k4, k5⟩ := zCb (a := a') (fn := fn) j1 j2 hrs hrr
   exact ⟨v, k5, v, _, _, G, rfl, k1, j1, k4⟩
  ·obtain ⟨d1, d2, d3⟩ := h3 D hD
   rw [g0.keeps.block D (Array.getElem?_eq_some_iff.1 d1).1 d2]; exact d1
  ·rintro w2 w3 D hD ⟨j1, j2⟩ t
   obtain ⟨d1, d2, d3⟩ := h3 D hD
   have hG : D ∉ G.own := fun hm => by
    rcases g0.new D hm with q | q
    ·exact d2 q
    ·have := (Array.getElem?_eq_some_iff.1 d1).1; omega
   exact ⟨t.inv hG d3 j1, fun u => Rel.evo _ (t.evo G) (j2 u)⟩
 cases e <;> simp only [LiftT, bodyPostM] at hl ⊢
 case panic => obtain ⟨_, _, _, _, _, _, _, k, _⟩ := hl; exact absurd k (hpan _ _)
 ·obtain ⟨n, m, s, h1, _, h2⟩ := hl; exact fin n m s h1 h2
 ·obtain ⟨n, m, s, h1, h3, h2⟩ := hl; exact h3.elim
 ·obtain ⟨n, m, s, h1, _, h2⟩ := hl; exact fin n m s h1 h2
theorem pur_of_bodyT {C : Cfg} {f : FuncId} {fn : Func} {c : Code} {rc : RC} {rs : List RR} (hf : C.P.funcs[f]? = some fn) (hb : fn.body = some c) (hnt : fn.ntmps = C.nt) (hrc : zAe C c = some rc) (hrs : resRs C fn.results.toList = some rs)
 {args : List D} {d : D} (hname : (fn.name == "runtime.NumGoroutine") = false) (hpl : C.pers.take args.length = List.range args.length) (hlt : args.length ≤ C.nt) (hn0 : C.n0 = 0) (hm0 : C.m0 = 0)
 (h : TWp C 0 0 rc (fun e n m s => (match e with | .exit _ => False | _ => True) ∧ ∃ s1, (∀ ds, Weak { C with n0 := n, m0 := m, dfs := ds } s s1) ∧ rrsWp rs s1 fun ds => D.closed (zAl ds) = true ∧ (zAl ds).er = d) (St.init C args ⟨[], []⟩))
 (hbs : ∀ w g, C.M.base w g := by exact fun _ _ => trivial) (hpan : ∀ d hp, ¬ C.M.pan d hp := by exact fun _ _ h => h) : Pur C.M f args d :=
 zDj (eff_of_bodyT hf hb hnt hrc hrs hname hpl hlt hn0 hm0 h hbs hpan)
end
theorem zCv {C : Cfg} {s : St} (b off k : Nat) (hk : 0 < k) {cs : List D} (hb : s.hp.H[b]? = some (.cells cs)) (hc : cs[off]? = some (.lit (.slice none 0 0))) :
 Weak C s ⟨s.env, s.scr, ⟨s.hp.H.set b (.cells (cs.set off (.slice [] (.tok s.hp.tk.length)))), s.hp.tk ++ [.per k 0]⟩⟩ := by
 intro w0 B a w h
 obtain ⟨G, g0, gb, g1, g2, g3, g4⟩ := h
 obtain ⟨q1, q2⟩ := g0.tokFull (len := 0) (a := none) hk (.per k 0) (.inl rfl)
 obtain ⟨n, hn⟩ : ∃ n, G.r[b]? = some n := by
  have hl := zAg hb
  rw [g0.heap.len] at hl
  exact ⟨_, List.getElem?_eq_getElem hl⟩
 obtain ⟨xs, e, k1, k2, k3⟩ := g0.heap.blk b _ n hb hn
 obtain ⟨x, hx, hrx⟩ := k2.get hc
 simp only [Rel] at hrx
 obtain ⟨rfl, _⟩ := hrx
 have hgs : Rel w (G.tok ⟨none, none, 0, k, 0⟩) (.slice [] (.tok s.hp.tk.length)) (.slice none 0 0) := by
  simp only [Rel]
  rw [g0.heap.lent]
  refine ⟨⟨0, 0, none⟩, 0, k, [], .inr ⟨by trivial, by simp, rfl⟩, by simp, RelL.nil, by simp, ⟨fun _ => rfl, by simp [flat]⟩, ?_⟩
  exact ⟨_, zFf _ _, rfl, by simp, fun _ => by rfl⟩
 have hset : xs.set off (.slice none 0 0) = xs := by
  apply List.ext_getElem?
  intro i
  rw [List.getElem?_set]
  split
  ·rename_i e; subst e; rw [hx]; split <;> simp_all [zAg hx]
  ·rfl
 obtain ⟨u1, u2⟩ := q1.write (w' := w) b n hn ⟨_, hb, by simp⟩ (.cells (cs.set off (.slice [] (.tok s.hp.tk.length))))
  (fun w1 g1 he => by
   rw [k1]
   refine ⟨xs, e, rfl, ?_, k3⟩
   have := (RelL.evo _ he (RelL.evo _ q2 k2)).set off (Rel.evo _ he hgs)
   rw [hset] at this
   exact this)
  (fun _ _ => rfl) rfl rfl rfl rfl
 refine ⟨_, u1, gb, g1, g2, g3, fun t => ?_⟩
 have h4 := g4 t
 unfold St.slot at *
 split
 ·rename_i j hj
  rw [hj] at h4
  exact Rel.evo _ u2 (Rel.evo _ q2 h4)
 ·rename_i hj
  rw [hj] at h4
  exact Rel.evo _ u2 (Rel.evo _ q2 h4)
section
variable {C : Cfg} {n m : Nat} {Q : Ex → Nat → Nat → St → Prop} {s : St}
theorem twp_reg {ros : List RO} (hbs : ∀ w g, C.M.base w g) (h : ∀ ds, SWp { C with n0 := n, m0 := m, dfs := ds } (.reg ros) (fun e s => Q e n m s) s) : TWp C n m (.reg ros) Q s := twp_of hbs h
theorem twp_cond {g : Opd} {x y : RC} (hbs : ∀ w g, C.M.base w g) (h : ∀ ds, SWp { C with n0 := n, m0 := m, dfs := ds } (.cond g x y) (fun e s => Q e n m s) s) : TWp C n m (.cond g x y) Q s := twp_of hbs h
theorem twp_ret (hbs : ∀ w g, C.M.base w g) (h : Q .ret n m s) : TWp C n m .ret Q s := twp_of hbs fun _ => swp_ret h
end
end GoV
end
section
namespace GoV
open Go Go.RowKit Go.ChangeShapes Go.Deep
abbrev G0 (w : World) : Gh := ⟨[], [], fun b _ => b < w.heap.size⟩
def Opens (P : Program) (w : World) (n : Nat) (t : TypeId) {α : Type} (f : α → List D) (ok : α → Prop) : Prop :=
 ∀ (H : Type) (enc : TypeId × Value → H) (cs : List Value) (x : DataW H × List MemPlace), DataW.trod enc P w 0 (fun _ => true) true n t cs = some x →
  ∃ a, ok a ∧ RelL w (G0 w) (f a) cs ∧ ∀ y ∈ cs, oneC y
def pk (ds : List D) : D := match ds with | [d] => d | ds => .agg ds
section
variable {P : Program} {w : World} {n : Nat} {t e : TypeId}
theorem Opens.imp {α β : Type} {f : α → List D} {ok : α → Prop} {f' : β → List D} {ok' : β → Prop} (h : Opens P w n t f ok) (c : α → β) (h1 : ∀ a, ok a → f' (c a) = f a) (h2 : ∀ a, ok a → ok' (c a)) : Opens P w n t f' ok' := by
 intro H enc cs x hx
 obtain ⟨a, k1, k2, k3⟩ := h H enc cs x hx
 exact ⟨c a, h2 a k1, by rw [h1 a k1]; exact k2, k3⟩
theorem opens_int {k : IntKind} (ht : P.underlying t = some (.int k)) : Opens P w n t (fun z : Int => [.int k z]) (fun z => (Lit.int k z).wf = true) := by
 intro H enc cs x hx
 obtain ⟨z, rfl, _, hw⟩ := DataW.trod_int ht hx
 exact ⟨z, hw, RelL.one (by simp [Rel]), by simp [oneC, Value.oneCell']⟩
theorem zCz (ht : P.underlying t = some (.int .i64)) : Opens P w n t (fun z : Int => [.int .i64 z]) (fun z => -9223372036854775808 ≤ z ∧ z ≤ 9223372036854775807) :=
 (opens_int ht).imp id (fun _ _ => rfl) (fun _ h => int_bounds h)
theorem opens_str (ht : P.underlying t = some .string) : Opens P w n t (fun s : List UInt8 => [.str s]) (fun s => s.length ≤ 9223372036854775807) := by
 intro H enc cs x hx
 obtain ⟨s, rfl, _, hl⟩ := DataW.trod_string ht hx
 refine ⟨s.data.toList, ?_, RelL.one (by simp [Rel]), by simp [oneC, Value.oneCell']⟩
 have : s.data.toList.length = s.size := by rw [Array.length_toList]; rfl
 show s.data.toList.length ≤ _
 rw [this]
 exact Nat.le_trans hl (by decide)
theorem rel_pk {ds : List D} {cs : List Value} (h : RelL w (G0 w) ds cs) (ho : ∀ y ∈ cs, oneC y) : ∃ v, Rel w (G0 w) (pk ds) v ∧ v.cells.toList = cs := by
 unfold pk
 split
 ·rename_i d
  obtain ⟨y, ys, rfl, h1, h2⟩ := h.inv
  rw [h2.inv_nil] at ho ⊢
  exact ⟨y, h1, by rw [zF4 (ho y (by simp))]⟩
 ·exact ⟨.agg cs.toArray, by simp only [Rel]; exact ⟨cs, rfl, h, ho⟩, by simp [Value.cells]⟩
theorem list_choose {α : Type} {q : Nat → α → Prop} : ∀ n, (∀ i, i < n → ∃ a, q i a) → ∃ l : List α, l.length = n ∧ ∀ i (h : i < l.length), q i l[i]
 | 0, _ => ⟨[], rfl, by simp⟩
 | n + 1, h => by
   obtain ⟨l, h1, h2⟩ := list_choose n fun i hi => h i (by omega)
   obtain ⟨a, ha⟩ := h n (by omega)
   refine ⟨l ++ [a], by simp [h1], fun i hi => ?_⟩
   by_cases e : i < l.length
   ·rw [List.getElem_append_left e]; exact h2 i e
   ·have : i = l.length := by simp at hi; omega
    subst this
    simp; rw [h1]; exact ha
theorem flat_get {k : Nat} (hk : 0 < k) : ∀ {xs : List Value}, (∀ y ∈ xs, y.cells.size = k) → ∀ {j : Nat} {y : Value}, (flat xs)[j]? = some y → ∃ x, xs[j / k]? = some x ∧ x.cells.toList[j % k]? = some y
 | [], _, j, y, h => by simp [flat] at h
 | x :: xs, hs, j, y, h => by
   have hx : x.cells.toList.length = k := by simpa using hs x (by simp)
   simp only [flat] at h
   by_cases e : j < k
   ·rw [List.getElem?_append_left (by omega)] at h
    exact ⟨x, by simp [Nat.div_eq_of_lt e], by rw [Nat.mod_eq_of_lt e]; exact h⟩
   ·rw [List.getElem?_append_right (by omega), hx] at h
    obtain ⟨x', h1, h2⟩ := flat_get hk (fun y hy => hs y (by simp [hy])) h
    refine ⟨x', ?_, by rwa [Nat.mod_eq_sub_mod (by omega)]⟩
    rw [Nat.div_eq_sub_div hk (by omega)]
    simpa using h1
theorem opens_slice {α : Type} {f : α → List D} {ok : α → Prop} (ht : P.underlying t = some (.slice e)) (hc : 0 < P.cellsOf e) (h : Opens P w n e f ok) :
 Opens P w (n + 1) t (fun l : List α => [.slice (l.map fun a => pk (f a)) .no]) (fun l => l.length ≤ 9223372036854775807 ∧ ∀ a ∈ l, ok a) := by
 intro H enc cs x hx
 rcases DataW.trod_slice ht hx with ⟨rfl, _⟩ | ⟨a, len, cap, elems, rest, n', hn, rfl, _, _, hlc, hm, hlen, hel, _⟩
 ·refine ⟨[], by simp, RelL.one ?_, by simp [oneC, Value.oneCell']⟩
  simp only [Rel]
  exact ⟨⟨0, 0, none⟩, 0, 0, [], .inr ⟨by simp, by simp, rfl⟩, by simp, RelL.nil, by simp, At.nil, trivial⟩
 obtain rfl : n = n' := by omega
 have one : ∀ i, i < len → ∃ av : α × Value, ok av.1 ∧ Rel w (G0 w) (pk (f av.1)) av.2 ∧ w.cells? 0 (a.add (i * P.cellsOf e)) (P.cellsOf e) = some av.2.cells.toList ∧ ∀ y ∈ av.2.cells.toList, oneC y := by
  intro i hi
  have h1 := hel i hi
  rw [List.getElem?_eq_getElem (by omega)] at h1
  obtain ⟨cs', h2, h3⟩ := Option.bind_eq_some_iff.1 h1
  obtain ⟨b, k1, k2, k3⟩ := h H enc cs' _ h3
  obtain ⟨v, k4, k5⟩ := rel_pk k2 k3
  exact ⟨⟨b, v⟩, k1, k4, by rw [k5]; exact h2, by rw [k5]; exact k3⟩
 obtain ⟨l, hl, hq⟩ := list_choose len one
 have hrel : ∀ (l : List (α × Value)), (∀ i (h : i < l.length), Rel w (G0 w) (pk (f (l[i]).1)) (l[i]).2) → RelL w (G0 w) (l.map fun av => pk (f av.1)) (l.map (·.2)) := by
  intro l
  induction l with
  | nil => intro _; exact RelL.nil
  | cons x l ih => intro hh; exact RelL.cons (hh 0 (by simp)) (ih fun i hi => hh (i + 1) (by simpa using hi))
 have hsz : ∀ y ∈ l.map (·.2), y.cells.size = P.cellsOf e := by
  intro y hy
  obtain ⟨av, hav, rfl⟩ := List.mem_map.1 hy
  obtain ⟨i, hi, rfl⟩ := List.getElem_of_mem hav
  have := (World.cells?_some (hq i hi).2.2.1).2.1
  simpa using this
 have cap_le : len ≤ 9223372036854775807 := Nat.le_trans hlc (Nat.le_trans hm (by decide))
 refine ⟨l.map (·.1), ⟨by simpa [hl] using cap_le, fun b hb => ?_⟩, RelL.one ?_, by simp [oneC, Value.oneCell']⟩
 ·obtain ⟨av, hav, rfl⟩ := List.mem_map.1 hb
  obtain ⟨i, hi, rfl⟩ := List.getElem_of_mem hav
  exact (hq i hi).1
 ·simp only [Rel]
  refine ⟨a, cap, P.cellsOf e, l.map (·.2), .inl (by simp [hl]), by simp [hl, hlc], ?_, hsz, ⟨fun hne => ?_, fun j y hj => ?_⟩, trivial⟩
  ·have := hrel l fun i hi => (hq i hi).2.1
   rw [List.map_map]
   exact this
  ·have hpos : 0 < l.length := by
    rcases Nat.eq_zero_or_pos l.length with q | q
    ·exfalso; apply hne
     rw [List.length_eq_zero_iff.1 q]; rfl
    ·exact q
   have hc0 := (World.cells?_some (hq 0 hpos).2.2.1).2.2 0 hc
   have hlen0 := (World.cells?_some (hq 0 hpos).2.2.1).2.1
   rw [List.getElem?_eq_getElem (by omega)] at hc0
   simp only [Nat.zero_mul] at hc0
   have ha0 : ∀ b : Addr, b.add 0 = b := fun b => by simp [Addr.add]
   rw [ha0, ha0] at hc0
   unfold World.cell? at hc0
   split at hc0
   ·split at hc0
    ·cases hc0
    ·rename_i hs; simpa using hs
   ·cases hc0
  ·obtain ⟨x, h1, h2⟩ := flat_get hc hsz hj
   rw [List.getElem?_map] at h1
   obtain ⟨av, hav, rfl⟩ := Option.map_eq_some_iff.1 h1
   have hi : j / P.cellsOf e < l.length := by
    rcases Nat.lt_or_ge (j / P.cellsOf e) l.length with q | q
    ·exact q
    ·rw [List.getElem?_eq_none q] at hav; cases hav
   rw [List.getElem?_eq_getElem hi] at hav
   cases hav
   obtain ⟨_, _, k3, k4⟩ := hq _ hi
   have hm := Nat.mod_lt j hc
   have hcell := (World.cells?_some k3).2.2 _ hm
   rw [h2] at hcell
   have hadd : w.cell? ((a.add (j / P.cellsOf e * P.cellsOf e)).add (j % P.cellsOf e)) = w.cell? ⟨a.block, a.off + j, none⟩ := by
    rw [add_add]
    have e1 : j / P.cellsOf e * P.cellsOf e + j % P.cellsOf e = j := Nat.div_add_mod' j _
    rw [e1]
    unfold Addr.add
    split
    ·rename_i hj0
     subst hj0
     rw [add_add, e1] at hcell
     have : a.add 0 = a := by simp [Addr.add]
     rw [this] at hcell
     have hsp : a.spot = none := by
      unfold World.cell? at hcell
      split at hcell
      ·split at hcell
       ·cases hcell
       ·rename_i hs; simpa using hs
      ·cases hcell
     obtain ⟨b, o, s⟩ := a
     simp at hsp; subst hsp; rfl
    ·rfl
   rw [hadd] at hcell
   refine ⟨hcell, ?_, k4 y (List.mem_of_getElem? h2)⟩
   have := World.block_lt_of_cell? w _ hcell
   exact this
def OpensF (P : Program) (w : World) (n : Nat) (fs : List Field) (off : Nat) {α : Type} (f : α → List D) (ok : α → Prop) : Prop :=
 ∀ (H : Type) (enc : TypeId × Value → H) (cs : List Value), cs.length = off + (fs.map fun f => P.cellsOf f.type).sum →
  (∀ f ∈ fs, ∃ x, DataW.trod enc P w 0 (fun _ => true) true n f.type ((cs.drop f.offset).take (P.cellsOf f.type)) = some x) →
  ∃ a, ok a ∧ RelL w (G0 w) (f a) (cs.drop off) ∧ ∀ y ∈ cs.drop off, oneC y
theorem opensF_nil {off : Nat} : OpensF P w n [] off (fun _ : Unit => []) (fun _ => True) := by
 intro H enc cs hl _
 have : cs.drop off = [] := List.drop_eq_nil_of_le (by simp at hl; omega)
 rw [this]
 exact ⟨(), trivial, RelL.nil, by simp⟩
theorem zBo {α β : Type} {f : α → List D} {ok : α → Prop} {g : β → List D} {ok' : β → Prop} {fl : Field} {fs : List Field} {off c : Nat} (ho : fl.offset = off) (hc : P.cellsOf fl.type = c) (h : Opens P w n fl.type f ok) (hr : OpensF P w n fs (off + c) g ok') :
 OpensF P w n (fl :: fs) off (fun p : α × β => f p.1 ++ g p.2) (fun p => ok p.1 ∧ ok' p.2) := by
 subst ho; subst hc
 intro H enc cs hl hf
 simp only [List.map_cons, List.sum_cons] at hl
 obtain ⟨x, hx⟩ := hf fl (by simp)
 obtain ⟨a, k1, k2, k3⟩ := h H enc _ x hx
 obtain ⟨b, j1, j2, j3⟩ := hr H enc cs (by omega) (fun f hm => hf f (by simp [hm]))
 have e : cs.drop fl.offset = (cs.drop fl.offset).take (P.cellsOf fl.type) ++ cs.drop (fl.offset + P.cellsOf fl.type) := by
  rw [← List.drop_drop, List.take_append_drop]
 refine ⟨(a, b), ⟨k1, j1⟩, ?_, ?_⟩
 ·rw [e]; exact k2.append j2
 ·rw [e]
  intro y hy
  rcases List.mem_append.1 hy with q | q
  ·exact k3 y q
  ·exact j3 y q
theorem zEm {α : Type} {f : α → List D} {ok : α → Prop} {fs : List Field} (ht : P.underlying t = some (.struct fs.toArray)) (hc : P.cellsOf t = (fs.map fun f => P.cellsOf f.type).sum) (h : OpensF P w n fs 0 f ok) : Opens P w (n + 1) t f ok := by
 intro H enc cs x hx
 obtain ⟨xs, n', hn, _, hl, hlen, hf⟩ := DataW.trod_struct ht hx
 obtain rfl : n = n' := by omega
 have := h H enc cs (by omega) (fun f hm => by
  obtain ⟨i, hi, rfl⟩ := List.getElem_of_mem hm
  have hq := hf i fs[i] (by simp [hi])
  rw [hq]
  have : i < xs.length := by rw [hlen]; simpa using hi
  exact ⟨xs[i], List.getElem?_eq_getElem this⟩)
 simpa using this
theorem opens_zero {α : Type} {f : α → List D} {ok : α → Prop} : Opens P w 0 t f ok := by
 intro H enc cs x hx
 simp [DataW.trod] at hx
theorem opens_all {α : Type} {f : α → List D} {ok : α → Prop} (h : ∀ n, Opens P w (n + 1) t f ok) : ∀ n, Opens P w n t f ok
 | 0 => opens_zero
 | n + 1 => h n
theorem arg_cell {α : Type} {f : α → List D} {ok : α → Prop} {H : Type} {enc : TypeId × Value → H} {v : Value} {d : DataW H} {ps : List MemPlace} {b : Nat} {desc : TypeDesc} (ht : P.underlying t = some desc) (hd : zBm desc = false) (hval : Value.okWide P w .any b t v)
 (h : DataW.Trod enc P w 0 (fun _ => true) true t v d ps) (hO : ∀ n, Opens P w n t f ok) : ∃ a, ok a ∧ RelL w (G0 w) (f a) [v] := by
 obtain ⟨fuel, hx⟩ := h
 obtain ⟨a, k1, k2, _⟩ := hO fuel H enc _ _ hx
 refine ⟨a, k1, ?_⟩
 have hv : oneC v := by
  cases v with
  | agg cs =>
    exfalso
    unfold Value.okWide at hval
    rw [ht] at hval
    cases desc <;> simp_all [zBm, Cell.okWide, Cell.ok]
  | tuple cs =>
    exfalso
    unfold Value.okWide at hval
    rw [ht] at hval
    cases desc <;> simp_all [zBm, Cell.okWide, Cell.ok]
  | _ => simp [oneC, Value.oneCell']
 rw [zF4 hv] at k2
 exact k2
theorem arg_row {α : Type} {f : α → List D} {ok : α → Prop} {H : Type} {enc : TypeId × Value → H} {v : Value} {d : DataW H} {ps : List MemPlace} {b : Nat} {fs : Array Field} (ht : P.underlying t = some (.struct fs)) (hval : Value.okWide P w .any b t v)
 (h : DataW.Trod enc P w 0 (fun _ => true) true t v d ps) (hO : ∀ n, Opens P w n t f ok) : ∃ a, ok a ∧ RelL w (G0 w) [.agg (f a)] [v] := by
 obtain ⟨fuel, hx⟩ := h
 obtain ⟨a, k1, k2, k3⟩ := hO fuel H enc _ _ hx
 refine ⟨a, k1, RelL.one ?_⟩
 unfold Value.okWide at hval
 rw [ht] at hval
 obtain ⟨cs, rfl, _⟩ := hval
 simp only [Value.cells] at k2 k3
 simp only [Rel]
 exact ⟨cs.toList, by simp, k2, k3⟩
theorem zE0 {ds es : List D} {xs ys : List Value} (h : RelL w (G0 w) ds xs) (h2 : RelL w (G0 w) es ys) : RelL w (G0 w) (ds ++ es) (xs ++ ys) := h.append h2
end
end GoV
end
section
set_option maxHeartbeats 1000000
namespace GoV
open Go Go.RowKit
theorem laid_var {P : Program} {W : World} : ∀ {l : List (String × DataW Unit)} {ps : List MemPlace}, DataW.LaidVars P W l ps → ∀ {name : String} {d : DataW Unit}, (name, d) ∈ l → ∃ g t cs fuel p, P.globalNamed name = some g ∧ (P.globals[g]?).map (·.type) = some t ∧ W.var? P name = some cs ∧
 DataW.trod (fun _ => ()) P W 0 (fun _ => true) false fuel t cs.toList = some (d, p)
 | [], _, _, _, _, h => by cases h
 | x :: r, _, hl, name, d, h => by
   obtain ⟨g, t, cs, fuel, p, q, h1, h2, h3, h4, h5, _⟩ := hl
   rcases List.mem_cons.1 h with h | h
   ·subst h; exact ⟨g, t, cs, fuel, p, h1, h2, h3, h4⟩
   ·exact laid_var h5 h
theorem heap_of_var {P : Program} {W : World} {name : String} {g : Nat} {cs : Array Value} (hg : P.globalNamed name = some g) (h : W.var? P name = some cs) : ∃ e fr, W.heap[g]? = some (.cells cs e fr) := by
 unfold World.var? at h
 rw [hg] at h
 simp only [Option.bind_some] at h
 split at h
 ·rename_i cs e fr hh; simp at h; subst h; exact ⟨e, fr, hh⟩
 ·cases h
theorem var_tab {P : Program} {W : World} {l : List (String × DataW Unit)} {name : String} {k : IntKind} {zs : List Int} {ps : List MemPlace} {g : Nat} {t e : TypeId} {n : Nat}
 (hl : DataW.LaidVars P W l ps) (hm : (name, Lib.tabData k zs) ∈ l) (hg : P.globalNamed name = some g) (hty : (P.globals[g]?).map (·.type) = some t) (ht : P.underlying t = some (.array n e)) (he : P.underlying e = some (.int k)) (hce : P.cellsOf e = 1) (hct : P.cellsOf t = n) :
 ∃ cs x fr, cs = (zs.map fun z => Value.int k z).toArray ∧ W.heap[g]? = some (.cells cs x fr) := by
 obtain ⟨g', t', cs, fuel, p, hg', ht', hvar, hd⟩ := laid_var hl hm
 obtain rfl := Option.some.inj (hg.symm.trans hg')
 obtain rfl := Option.some.inj (hty.symm.trans ht')
 obtain ⟨x, fr, hh⟩ := heap_of_var hg hvar
 exact ⟨cs, x, fr, by rw [← Lib.cells_of_tab ht he hce hct hd], hh⟩
theorem var_err {P : Program} {W : World} {l : List (String × DataW Unit)} {name nm : String} {d : DataW Unit} {ps : List MemPlace} {g : Nat} {t : TypeId} {ms : Array (String × TypeId)}
 (hl : DataW.LaidVars P W l ps) (hm : (name, .iface nm d) ∈ l) (hg : P.globalNamed name = some g) (hty : (P.globals[g]?).map (·.type) = some t) (ht : P.underlying t = some (.interface ms)) :
 ∃ cs x fr, (∃ v, (v = .nilIface ∨ ∃ te pe, v = .iface te pe) ∧ cs = #[v]) ∧ W.heap[g]? = some (.cells cs x fr) := by
 obtain ⟨g', t', cs, fuel, p, hg', ht', hvar, hd⟩ := laid_var hl hm
 obtain rfl := Option.some.inj (hg.symm.trans hg')
 obtain rfl := Option.some.inj (hty.symm.trans ht')
 obtain ⟨x, fr, hh⟩ := heap_of_var hg hvar
 refine ⟨cs, x, fr, ?_, hh⟩
 cases fuel with
 | zero => simp [DataW.trod] at hd
 | succ n =>
   unfold DataW.trod at hd
   rw [ht] at hd
   split at hd <;> first
    | (simp at hd; done)
    | (rename_i hc; simp_all; done)
    | (rename_i u v _ hc
       have : cs = #[.iface u v] := by
        cases cs with
        | mk c => simp at hc; rw [hc]
       exact ⟨_, .inr ⟨u, v, rfl⟩, this⟩)
    | (rename_i u v hc _
       have : cs = #[.iface u v] := by
        cases cs with
        | mk c => simp at hc; rw [hc]
       exact ⟨_, .inr ⟨u, v, rfl⟩, this⟩)
theorem var_int {P : Program} {W : World} {g : Nat} {t : TypeId} {zero : Array Value} {k : IntKind} (h : W.ShapedOpen P) (hg : g < P.globals.size)
 (h0 : ((begin P (fun _ _ => 0) default).world.heap[g]?).bind Obj.row? = some (zero, t)) (hz : zero.size = 1) (hb : P.buildable t = true) (hc : P.cellTypes P.depth t = some [t]) (hu : P.underlying t = some (.int k)) :
 ∃ cs x fr, (∃ v, (∃ m, v = .int k m) ∧ cs = #[v]) ∧ W.heap[g]? = some (.cells cs x fr) := by
 obtain ⟨m, hm⟩ := Proofs.cell_of_shapedOpen_int h hg h0 hz hb hc hu
 obtain ⟨cs, hh, hs, _⟩ := h.1 g zero t hg h0
 refine ⟨cs, t, _, ⟨.int k m, ⟨m, rfl⟩, ?_⟩, hh⟩
 rw [hz] at hs
 unfold World.cell? at hm
 rw [hh] at hm
 simp at hm
 obtain ⟨c⟩ := cs
 match c, hs with
 | [v], _ => simp at hm; rw [hm]
end GoV
end
section
set_option linter.unusedSimpArgs false
set_option linter.unusedVariables false
set_option maxHeartbeats 1000000
namespace GoV
open Go
section
variable {C : Cfg} {w0 : World} {B : Gh}
end
section
variable {M : Mod} {j i : Nat} {dst : Dst} {a g : Opd} {q : Bool} {r : List (RO × Bool)} {K : St → Prop} {s : St} {want : Bool} {oc : OC} {args : List Opd}
end
end GoV
end
section
set_option linter.unusedSimpArgs false
set_option linter.unusedVariables false
set_option maxHeartbeats 1000000
namespace GoV
open Go
section
variable {C : Cfg} {w0 : World} {B : Gh}
theorem draw_soundF {ro : Option Nat} {Q : Exit → Act → World → Prop} (hA : C.M.start w0 B ∧ PQ C w0 B Q) {ops : Array Oper} {m : Nat} {ros : List RO} {K : St → Prop} (hB : drawOk ops m = true) (hm : m ≤ ops.size) (hr : zA7 C ops (List.range' 0 ops.size) = some ros)
 (hQ : ∀ s a w, K s → Sim C w0 B s a w → Q .normal a w) {s : St} (_hl : s.env.length = C.pers.length)
 {ds : Nat → D} {F : (Nat → Bool) → Hp} {s1 : St} (hk1 : opsWp C.M (ros.drop m) K s1) (hpm : F (fun j => decide (j < m)) = s1.hp) (hl1 : s1.env.length = C.pers.length)
 (hst : ∀ i, i < m → ∃ o, ops[i]? = some o ∧ ∀ E : Nat → Bool, E i = false → StepQ C ops (F E) (F (fun j => E j || j == i)) (sig ops (s.slot C.pers) ds (fun _ => true) i) o (ds i))
 (hend : sig ops (s.slot C.pers) ds (fun _ => true) m = s1.slot C.pers) :
 ∀ (fuel : Nat) (listed : Array Bool) (a : Act) (w : World), listed.size = ops.size → unl listed.toList ≤ fuel →
  (∀ j oj, ops[j]? = some oj → listed.getD j false = true → ∀ e ∈ oj.after, Region.binds .any e = true → listed.getD e.on false = true) →
  (((∀ j, listed.getD j false = true → j < m) ∧ SimF C w0 B (sig ops (s.slot C.pers) ds (fun j => listed.getD j false) m) (F (fun j => listed.getD j false)) a w) ∨
    ∃ i s', m ≤ i ∧ (∀ j, j < ops.size → (listed.getD j false = true ↔ j < i)) ∧ Sim C w0 B s' a w ∧ opsWp C.M (ros.drop i) K s') →
  wpAnyIn (FR ro) 0 C.P .any ops Q fuel listed a w := by
 have hros : ros.length = ops.size := by rw [zB1 _ _ hr]; simp
 have hsub : ∀ (listed : Array Bool), (∀ j oj, ops[j]? = some oj → listed.getD j false = true → ∀ e ∈ oj.after, Region.binds .any e = true → listed.getD e.on false = true) →
  ∀ j oj, ops[j]? = some oj → (∀ e ∈ oj.after, Region.binds .any e = true → listed.getD e.on false = true) → ∀ i ∈ (zAw ops.toList).getD j [], listed.getD i false = true := by
  intro listed hcl j
  induction j using Nat.strongRecOn with
  | _ j ih =>
    intro oj hj ha i hi
    obtain ⟨e, he, hbd, h1⟩ := zFq (by simpa using hj) hi
    rcases h1 with h1 | h1
    ·rw [h1]; exact ha e he hbd
    ·have hlt := (zAv hB hj).1 e he hbd
     have hjs : j < ops.size := (Array.getElem?_eq_some_iff.1 hj).1
     have hoe : ops[e.on]? = some ops[e.on] := Array.getElem?_eq_getElem (by omega)
     exact ih e.on hlt _ hoe (hcl e.on _ hoe (ha e he hbd)) i h1
 have conv : ∀ (listed : Array Bool) (a : Act) (w : World), (∀ j, listed.getD j false = true → j < m) → (∀ j, j < m → listed.getD j false = true) →
  SimF C w0 B (sig ops (s.slot C.pers) ds (fun j => listed.getD j false) m) (F (fun j => listed.getD j false)) a w → Sim C w0 B s1 a w := by
  intro listed a w h1 h2 hs
  have e : sig ops (s.slot C.pers) ds (fun j => listed.getD j false) m = s1.slot C.pers := by
   rw [← hend]; funext t
   exact zEd m fun j hj _ => h2 j hj
  obtain ⟨G, g1, gb, g2, g3, g4⟩ := hs
  have ef : (fun j => listed.getD j false) = (fun j => decide (j < m)) := by
   funext j
   by_cases q : j < m
   ·rw [h2 j q, decide_eq_true q]
   ·rw [decide_eq_false q]
    cases hb : listed.getD j false with
    | false => rfl
    | true => exact absurd (h1 j hb) q
  rw [ef] at g1
  exact ⟨G, by rw [← hpm]; exact g1, gb, g2, g3, hl1, by rw [← e]; exact g4⟩
 have fin : ∀ (listed : Array Bool) (a : Act) (w : World), (∀ j, j < ops.size → listed.getD j false = true) →
  (((∀ j, listed.getD j false = true → j < m) ∧ SimF C w0 B (sig ops (s.slot C.pers) ds (fun j => listed.getD j false) m) (F (fun j => listed.getD j false)) a w) ∨
    ∃ i s', m ≤ i ∧ (∀ j, j < ops.size → (listed.getD j false = true ↔ j < i)) ∧ Sim C w0 B s' a w ∧ opsWp C.M (ros.drop i) K s') → Q .normal a w := by
  intro listed a w hall h
  rcases h with ⟨h1, h2⟩ | ⟨i, s', h1, h2, h3, h4⟩
  ·have hs1 := conv listed a w h1 (fun j hj => hall j (by omega)) h2
   have hmn : ops.size ≤ m := by
    rcases Nat.eq_zero_or_pos ops.size with g | g
    ·omega
    ·have := h1 (ops.size - 1) (hall _ (by omega)); omega
   rw [List.drop_eq_nil_of_le (by omega)] at hk1
   exact hQ s1 a w hk1 hs1
  ·have hin : ops.size ≤ i := by
    rcases Nat.eq_zero_or_pos ops.size with g | g
    ·omega
    ·have := (h2 (ops.size - 1) (by omega)).1 (hall _ (by omega)); omega
   rw [List.drop_eq_nil_of_le (by omega)] at h4
   exact hQ s' a w h4 h3
 have least : ∀ (listed : Array Bool), listed.size = ops.size → (∀ j oj, ops[j]? = some oj → listed.getD j false = true → ∀ e ∈ oj.after, Region.binds .any e = true → listed.getD e.on false = true) →
  Region.ready .any ops listed = [] → ∀ j, j < ops.size → listed.getD j false = true := by
  intro listed hsz hcl hr0 j
  induction j using Nat.strongRecOn with
  | _ j ih =>
    intro hj
    cases hb : listed.getD j false with
    | true => rfl
    | false =>
      exfalso
      have hoj : ops[j]? = some ops[j] := Array.getElem?_eq_getElem hj
      have : j ∈ Region.ready .any ops listed := by
       rw [mem_ready]
       refine ⟨?_, ops[j], hoj, fun e he hbd => ?_⟩
       ·have hlt : j < listed.size := by omega
        simp [hlt] at hb ⊢; exact hb
       ·have := (zAv hB hoj).1 e he hbd
        exact ih e.on this (by omega)
      rw [hr0] at this; cases this
 intro fuel
 induction fuel with
 | zero =>
   intro listed a w hsz hu hcl h
   have hall : ∀ j, j < ops.size → listed.getD j false = true := by
    intro j hj
    have hlt : j < listed.size := by omega
    have := unl_zero listed.toList (by omega) j (by simpa using hlt)
    simp [hlt] at this ⊢; exact this
   refine ⟨?_, fin listed a w hall h⟩
   cases hr0 : Region.ready .any ops listed with
   | nil => rfl
   | cons i l =>
     have : i ∈ Region.ready .any ops listed := by rw [hr0]; simp
     obtain ⟨h1, o, ho, _⟩ := mem_ready.1 this
     have hlt : i < ops.size := (Array.getElem?_eq_some_iff.1 ho).1
     have h2 := hall i hlt
     have hlt2 : i < listed.size := by omega
     simp [hlt2] at h1 h2; rw [h1] at h2; cases h2
 | succ fuel ih =>
   intro listed a w hsz hu hcl h
   refine ⟨fun hr0 => fin listed a w (least listed hsz hcl hr0) h, fun i hi => ?_⟩
   obtain ⟨hun, o, ho, hdeps⟩ := mem_ready.1 hi
   have hlt : i < ops.size := (Array.getElem?_eq_some_iff.1 ho).1
   have hlt2 : i < listed.size := by omega
   have hunf : listed.getD i false = false := by simp [hlt2] at hun ⊢; exact hun
   have hdeps' : ∀ e ∈ o.after, Region.binds .any e = true → listed.getD e.on false = true := hdeps
   have hbef := hsub listed hcl i o ho hdeps'
   have hcl' : ∀ j oj, ops[j]? = some oj → (listed.setIfInBounds i true).getD j false = true → ∀ e ∈ oj.after, Region.binds .any e = true → (listed.setIfInBounds i true).getD e.on false = true := by
    intro j oj hj hlj e he hbd
    rw [zBj hlt2] at hlj ⊢
    simp only [Bool.or_eq_true, beq_iff_eq] at hlj ⊢
    rcases hlj with g | g
    ·exact .inl (hcl j oj hj g e he hbd)
    ·subst g
     rw [ho] at hj; cases hj
     exact .inl (hdeps' e he hbd)
   have hu' : unl (listed.setIfInBounds i true).toList ≤ fuel := by
    have := unl_set listed.toList i (by simp [hlt2] at hunf ⊢; exact hunf)
    simp only [Array.toList_setIfInBounds]; omega
   have hafter : m ≤ i → ∀ j, j < ops.size → (listed.getD j false = true ↔ j < i) := by
    intro hmi j hj
    constructor
    ·intro hlj
     rcases Nat.lt_trichotomy j i with g | g | g
     ·exact g
     ·subst g; rw [hunf] at hlj; cases hlj
     ·exfalso
      have hoj : ops[j]? = some ops[j] := Array.getElem?_eq_getElem hj
      obtain ⟨oi, hoi, q⟩ := (zAv hB hoj).2 i g
      rcases q with q | q
      ·have := hsub listed hcl j _ hoj (hcl j _ hoj hlj) i q
       rw [hunf] at this; cases this
      ·omega
    ·intro hji
     obtain ⟨oi, hoi, q⟩ := (zAv hB ho).2 j hji
     rcases q with q | q
     ·exact hbef j q
     ·omega
   unfold wpOpIn
   rw [ho]
   by_cases him : i < m
   ·
    rcases h with ⟨h1, h2⟩ | ⟨i', s', h1, h2, h3, h4⟩
    ·obtain ⟨o', ho', hq⟩ := hst i him
     rw [ho] at ho'; cases ho'
     have ords : ∀ j, j < m → j ≠ i → ∀ t, t ∈ zCm ops o → dstO ops j = some t → (listed.getD j false = true ↔ j < i) := by
      intro j hj hji t ht hd
      have hjs : j < ops.size := by omega
      have hoj : ops[j]? = some ops[j] := Array.getElem?_eq_getElem hjs
      have hdj : ops[j].dst = some t := by simpa [dstO, hoj] using hd
      constructor
      ·intro hlj
       rcases Nat.lt_or_ge j i with g | g
       ·exact g
       ·exfalso
        obtain ⟨oi, hoi, q⟩ := (zAv hB hoj).2 i (by omega)
        rw [ho] at hoi; cases hoi
        rcases q with q | q
        ·have := hsub listed hcl j _ hoj (hcl j _ hoj hlj) i q
         rw [hunf] at this; cases this
        ·exact (zE2 q.2).2 t hdj ht
      ·intro g
       obtain ⟨oi, hoi, q⟩ := (zAv hB ho).2 j g
       rw [hoj] at hoi; cases hoi
       rcases q with q | q
       ·exact hbef j q
       ·exact absurd ht ((zE2 q.2).1 t hdj)
     have hlook : ∀ t ∈ o.looksAt ops, sig ops (s.slot C.pers) ds (fun _ => true) i t = sig ops (s.slot C.pers) ds (fun j => listed.getD j false) m t := by
      intro t ht
      have ht' : t ∈ zCm ops o := by simp [zCm, ht]
      have e1 : sig ops (s.slot C.pers) ds (fun j => listed.getD j false) m t = sig ops (s.slot C.pers) ds (fun j => listed.getD j false) i t := by
       refine zDu m (by omega) fun j g1 g2 g3 hd => ?_
       by_cases hji : j = i
       ·subst hji; rw [hunf] at g3; cases g3
       ·have := (ords j g2 hji t ht' hd).1 g3; omega
      rw [e1]
      exact zEd i fun j hj hd => ((ords j (by omega) (by omega) t ht' hd).2 hj).symm
     obtain ⟨o', x, r1, r2, r3⟩ := zCx _ _ i ros hr hlt
     rw [Nat.zero_add, ho] at r1; cases r1
     have hx : ros[i]? = some x := by
      have := List.getElem?_drop (xs := ros) (i := i) (j := 0)
      rw [r3] at this; simpa using this.symm
     have hL : ∀ j, (listed.setIfInBounds i true).getD j false = (listed.getD j false || j == i) := fun j => zBj hlt2
     have hstep : StepQ C ops (F (fun j => listed.getD j false)) (F (fun j => (listed.setIfInBounds i true).getD j false)) (sig ops (s.slot C.pers) ds (fun _ => true) i) o (ds i) := by
      have e : (fun j => (listed.setIfInBounds i true).getD j false) = fun j => listed.getD j false || j == i := funext hL
      rw [e]
      exact hq _ hunf
     refine StepQ.sound hA (hstep.congr hlook) h2 fun a' w' hs' => ih _ a' w' (by simpa using hsz) hu' hcl' (.inl ⟨fun j hj => ?_, ?_⟩)
     ·rw [zBj hlt2] at hj
      simp only [Bool.or_eq_true, beq_iff_eq] at hj
      rcases hj with g | g
      ·exact h1 j g
      ·omega
     ·have e2 : sig ops (s.slot C.pers) ds (fun j => (listed.setIfInBounds i true).getD j false) m = updO (sig ops (s.slot C.pers) ds (fun j => listed.getD j false) m) (dstO ops i) (ds i) := by
       rw [← sig_set him hunf]
       ·congr 1; funext j; exact zBj hlt2
       ·intro j t g1 g2 g3 g4 g5
        cases hb : listed.getD j false with
        | false => rfl
        | true =>
          have hoi : o.dst = some t := by simpa [dstO, ho] using g3
          have := (ords j g1 g2 t (by simp [zCm, hoi]) g4).1 hb
          omega
      rw [e2]
      have : dstO ops i = o.dst := by simp [dstO, ho]
      rw [this]; exact hs'
    ·exfalso
     have := (h2 i hlt).2 (by omega)
     rw [hunf] at this; cases this
   ·
    have hmi : m ≤ i := by omega
    have hiff := hafter hmi
    obtain ⟨s', hs', hk'⟩ : ∃ s', Sim C w0 B s' a w ∧ opsWp C.M (ros.drop i) K s' := by
     rcases h with ⟨h1, h2⟩ | ⟨i', s', h1, h2, h3, h4⟩
     ·have hie : i = m := by
       rcases Nat.lt_or_ge m i with g | g
       ·have := h1 m ((hiff m (by omega)).2 g); omega
       ·omega
      subst hie
      exact ⟨s1, conv listed a w h1 (fun j hj => (hiff j (by omega)).2 hj) h2, hk1⟩
     ·have hie : i' = i := by
       rcases Nat.lt_trichotomy i' i with g | g | g
       ·have q1 := (hiff i' (by omega)).2 g
        have := (h2 i' (by omega)).1 q1; omega
       ·exact g
       ·have := (h2 i hlt).2 g; rw [hunf] at this; cases this
      subst hie
      exact ⟨s', h3, h4⟩
    obtain ⟨o', x, g1, g2, g3⟩ := zCx _ _ i ros hr hlt
    rw [Nat.zero_add, ho] at g1; cases g1
    rw [g3] at hk'
    refine head_sound hA g2 (K := opsWp C.M (ros.drop (i + 1)) K) (fun s'' a' w' q1 q2 => ih _ a' w' (by simpa using hsz) hu' hcl' (.inr ⟨i + 1, s'', by omega, fun j hj => ?_, q2, q1⟩)) hk' hs'
    rw [zBj hlt2]
    simp only [Bool.or_eq_true, beq_iff_eq]
    have := hiff j hj
    constructor
    ·rintro (q | q)
     ·have := this.1 q; omega
     ·omega
    ·intro q
     by_cases e : j = i
     ·exact .inr e
     ·exact .inl (this.2 (by omega))
def AnyF (M : Mod) (F : (Nat → Bool) → Hp) (i : Nat) (oc : OC) (ds : List D) (d : D) : Prop := ∀ E : Nat → Bool, E i = false → OcWp M oc ds (F E) (fun d' hp' => d' = d ∧ hp' = F (fun j => E j || j == i))
def Still (F : (Nat → Bool) → Hp) (i : Nat) : Prop := ∀ E : Nat → Bool, E i = false → F (fun j => E j || j == i) = F E
def headF (M : Mod) (F : (Nat → Bool) → Hp) (i : Nat) (o : RO) (K : St → Prop) (s : St) : Prop :=
 match o.guard with
 | none => ∃ d, AnyF M F i o.oc (o.args.map s.get) d ∧ K (s.put o.dst d)
 | some (g, want) =>
   match s.get g with
   | .bool b => (b = want → ∃ d, AnyF M F i o.oc (o.args.map (s.setO g (.bool want)).get) d ∧ K ((s.setO g (.bool want)).put o.dst d)) ∧
    (b = (!want) → Still F i ∧ K ((s.setO g (.bool (!want))).put o.dst .skip))
   | .skip => Still F i ∧ K (s.put o.dst .skip)
   | _ => False
def opsF (M : Mod) (F : (Nat → Bool) → Hp) : Nat → List (RO × Bool) → (St → Prop) → St → Prop
 | j, [], K, s => K { s with hp := F (fun k => decide (k < j)) }
 | i, (o, _) :: r, K, s => headF M F i o (opsF M F (i + 1) r K) s
theorem headF_step {ops : Array Oper} {o : Oper} {x : RO} {K : St → Prop} {s : St} (h1 : zCy C ops o = some x) (hl : s.env.length = C.pers.length) {F : (Nat → Bool) → Hp} {i : Nat} (h : headF C.M F i x K s) :
 ∃ d s1, K s1 ∧ s1.hp = s.hp ∧ s1.env.length = C.pers.length ∧ (∀ E : Nat → Bool, E i = false → StepQ C ops (F E) (F (fun j => E j || j == i)) (s.slot C.pers) o d) ∧ s1.slot C.pers = updO (s.slot C.pers) o.dst d := by
 unfold zCy at h1
 cases hres : zAo C.P o.op with
 | none => simp [hres] at h1
 | some p =>
   obtain ⟨oc, ys⟩ := p
   cases ha : resOs C ys with
   | none => simp [hres, ha] at h1
   | some args =>
     cases hd : zBq C o.dst with
     | none => simp [hres, ha, hd] at h1
     | some dst =>
       cases hg : zBp C ops o.guard with
       | none => simp [hres, ha, hd, hg] at h1
       | some guard =>
         simp [hres, ha, hd, hg] at h1; subst h1
         cases hog : o.guard with
         | none =>
           simp [hog, zBp] at hg; subst hg
           simp only [headF] at h
           obtain ⟨d, h2, h3⟩ := h
           rw [map_evO ha] at h2
           exact ⟨d, _, h3, zC5 _ _ _, by rw [zBb]; exact hl, fun E hE => ⟨oc, ys, hres, ⟨_, ha⟩, ⟨_, hd⟩, .inl ⟨hog, h2 E hE⟩⟩, zC4 hd hl _⟩
         | some p =>
           obtain ⟨j, want⟩ := p
           simp only [hog, zBp] at hg
           cases hj : (ops[j]?).bind (·.dst) with
           | none => simp [hj] at hg
           | some t =>
             simp only [hj] at hg
             cases hgo : resO C (.tmp t) with
             | none => simp [hgo] at hg
             | some g =>
               simp [hgo] at hg; subst hg
               have htn := (zC3 hgo).2
               simp only [headF] at h
               have hsl : s.slot C.pers t = s.get g := (zF0 hgo).symm
               cases hb : s.get g <;> simp only [hb] at h
               case bool b =>
                by_cases e : b = want
                ·subst e
                 obtain ⟨d, h2, h3⟩ := h.1 rfl
                 rw [map_evO ha, zDg hgo hl hb] at h2
                 refine ⟨d, _, h3, by rw [zC5, zDc], by rw [zBb]; simpa [zB0] using hl, fun E hE => ⟨oc, ys, hres, ⟨_, ha⟩, ⟨_, hd⟩, .inr ⟨j, b, t, hog, hj, htn, .inl ⟨by rw [hsl, hb], h2 E hE⟩⟩⟩, ?_⟩
                 rw [zC4 hd (by simpa [zB0] using hl), zDg hgo hl hb]
                ·have e' : b = (!want) := by cases b <;> cases want <;> simp_all
                 subst e'
                 refine ⟨.skip, _, (h.2 rfl).2, by rw [zC5, zDc], by rw [zBb, zB0]; exact hl, fun E hE => ⟨oc, ys, hres, ⟨_, ha⟩, ⟨_, hd⟩, .inr ⟨j, want, t, hog, hj, htn, .inr (.inl ⟨by rw [hsl, hb], rfl, (h.2 rfl).1 E hE⟩)⟩⟩, ?_⟩
                 rw [zC4 hd (by rw [zB0]; exact hl), zDg hgo hl hb]
               case skip =>
                exact ⟨.skip, _, h.2, zC5 _ _ _, by rw [zBb]; exact hl, fun E hE => ⟨oc, ys, hres, ⟨_, ha⟩, ⟨_, hd⟩, .inr ⟨j, want, t, hog, hj, htn, .inr (.inr ⟨by rw [hsl, hb], rfl, h.1 E hE⟩)⟩⟩, zC4 hd hl _⟩
theorem opsF_trace {ops : Array Oper} {K : St → Prop} {F : (Nat → Bool) → Hp} : ∀ (len k : Nat) (ros : List RO) (qs : List (RO × Bool)) (s : St), zA7 C ops (List.range' k len) = some ros → qs.map (·.1) = ros → s.env.length = C.pers.length → opsF C.M F k qs K s →
 ∃ (ds : Nat → D) (σ : Nat → Nat → D) (s1 : St), K s1 ∧ s1.hp = F (fun j => decide (j < k + len)) ∧ s1.env.length = C.pers.length ∧ σ k = s.slot C.pers ∧ σ (k + len) = s1.slot C.pers ∧
  ∀ i, k ≤ i → i < k + len → ∃ o, ops[i]? = some o ∧ (∀ E : Nat → Bool, E i = false → StepQ C ops (F E) (F (fun j => E j || j == i)) (σ i) o (ds i)) ∧ σ (i + 1) = updO (σ i) o.dst (ds i)
 | 0, k, ros, qs, s, hr, hqs, hl, h => by
   simp [zA7] at hr; subst hr
   have : qs = [] := by simpa using hqs
   subst this
   exact ⟨fun _ => .u0, fun _ => s.slot C.pers, _, h, rfl, hl, rfl, rfl, fun i h1 h2 => by omega⟩
 | len + 1, k, ros, qs, s, hr, hqs, hl, h => by
   rw [List.range'_succ] at hr
   obtain ⟨o, x, xs, ho, h1, h2, rfl⟩ := zCc hr
   cases qs with
   | nil => simp at hqs
   | cons p qs =>
     obtain ⟨x', q⟩ := p
     simp only [List.map_cons, List.cons.injEq] at hqs
     obtain ⟨rfl, hqs⟩ := hqs
     simp only [opsF] at h
     obtain ⟨d, s1, k1, _, k3, k4, k5⟩ := headF_step h1 hl h
     obtain ⟨ds, σ, s2, g1, g2, g3, g4, g5, g6⟩ := opsF_trace len (k + 1) xs qs s1 h2 hqs k3 k1
     refine ⟨fun i => if i = k then d else ds i, fun i => if i = k then s.slot C.pers else σ i, s2, g1, ?_, g3, by simp, ?_, fun i h1 h2 => ?_⟩
     ·rw [g2]; congr 1; funext j; congr 1; exact propext ⟨fun _ => by omega, fun _ => by omega⟩
     ·have : k + (len + 1) ≠ k := by omega
      simp only [this, if_false]
      rw [← g5]; congr 1; omega
     ·by_cases ek : i = k
      ·subst ek
       refine ⟨o, ho, ?_, ?_⟩
       ·simpa using k4
       ·simp [g4, k5]
      ·obtain ⟨o', q1, q2, q3⟩ := g6 i (by omega) (by omega)
       have e2 : i + 1 ≠ k := by omega
       exact ⟨o', q1, by simpa [ek] using q2, by simpa [ek, e2] using q3⟩
theorem zA0 {Q : Ex → St → Prop} {s : St} {qs : List (RO × Bool)} {ros : List RO} (F : (Nat → Bool) → Hp) (h0 : F (fun _ => false) = s.hp) (h : opsF C.M F 0 qs (fun s1 => opsWp C.M ros (fun s' => Q .normal s'.done) s1) s) : SWp C (.regD qs ros) Q s := by
 refine ⟨fun c hc w0 B hA a w hs => ?_⟩
 have hreg : ∀ id ops d, c = .region id ops d → _ := fun id ops d e => zAp (e ▸ hc)
 cases c <;> (try simp only [zAe] at hc) <;> (try (cases hc; done))
 case region id ops d =>
  rcases hreg _ _ _ rfl with ⟨r, h1, _⟩ | ⟨r, h1, rfl, hB1, hB2, hr⟩ | h1
  ·cases h1
  ·cases h1
   have hB := And.intro hB1 hB2
   ·skip
    rw [List.range_eq_range'] at hr
    have hl : s.env.length = C.pers.length := by obtain ⟨_, _, _, _, _, q, _⟩ := hs; exact q
    have hrl : zBv ops ≤ r.length := by rw [zB1 _ _ hr]; simpa using zDe ops
    obtain ⟨ds, σ, s1, k1, k2, k3, k4, k5, k6⟩ := opsF_trace (zBv ops) 0 _ _ s (zFl _ _ 0 _ hr (zDe ops)) (flags_fst hrl) hl h
    have hsig : ∀ i, i ≤ zBv ops → σ i = sig ops (s.slot C.pers) ds (fun _ => true) i := by
     intro i
     induction i with
     | zero => intro _; exact k4
     | succ i ih =>
       intro hi
       obtain ⟨o, q1, _, q3⟩ := k6 i (Nat.zero_le _) (by omega)
       rw [q3, ih (by omega)]
       simp [sig, dstO, q1]
    refine fun ro => wpIn_region_any hB.2 (draw_soundF ⟨hA, lift_pq⟩ (s := s) (s1 := s1) (K := fun s' => Q .normal s'.done) (ds := ds) (F := F) (m := zBv ops) (ros := r) hB.1 (zDe ops) hr (fun s a w hk hs => ⟨s.done, zEa _ _ _ _ hs, hk⟩) hl k1 (by rw [k2, Nat.zero_add]) k3 (fun i hi => ?_) ?_ ops.size _ a _ (by simp) ?_ ?_ (.inl ⟨?_, ?_⟩))
    ·obtain ⟨o, q1, q2, _⟩ := k6 i (Nat.zero_le _) (by omega)
     rw [hsig i (by omega)] at q2
     exact ⟨o, q1, q2⟩
    ·rw [← hsig _ (Nat.le_refl _), ← k5, Nat.zero_add]
    ·simp only [unl, Array.toList_replicate]
     exact Nat.le_trans (List.length_filter_le _ _) (by simp)
    ·intro j oj hj hlj
     exfalso
     have : (Array.replicate ops.size false).getD j false = false := by
      simp only [Array.getD_eq_getD_getElem?, Array.getElem?_replicate]; split <;> rfl
     rw [this] at hlj; cases hlj
    ·intro j hlj
     exfalso
     have : (Array.replicate ops.size false).getD j false = false := by
      simp only [Array.getD_eq_getD_getElem?, Array.getElem?_replicate]; split <;> rfl
     rw [this] at hlj; cases hlj
    ·obtain ⟨G, g0, gb, g1, g2, g3, g4⟩ := hs
     have hrep : ∀ j, (Array.replicate ops.size false).getD j false = false := by
      intro j
      simp only [Array.getD_eq_getD_getElem?, Array.getElem?_replicate]; split <;> rfl
     have e1 : sig ops (s.slot C.pers) ds (fun j => (Array.replicate ops.size false).getD j false) (zBv ops) = s.slot C.pers := by
      funext t
      exact zDu (ops := ops) (σ0 := s.slot C.pers) (ds := ds) (E := fun j => (Array.replicate ops.size false).getD j false) (t := t) (a := 0) (zBv ops) (Nat.zero_le _) (fun j _ _ hE => by
       rw [hrep] at hE; cases hE)
     have e3 : (fun j => (Array.replicate ops.size false).getD j false) = fun _ => false := funext hrep
     rw [e1, e3, h0]
     obtain ⟨q1, q2⟩ := g0.drawn (w.drawn + 1)
     exact ⟨G, q1, gb, g1, g2, fun t => Rel.evo _ q2 (g4 t)⟩
  ·cases h1
 all_goals exfalso; (repeat' split at hc) <;> simp_all
end
section
variable {M : Mod} {F : (Nat → Bool) → Hp} {i : Nat} {dst : Dst} {q : Bool} {r : List (RO × Bool)} {K : St → Prop} {s : St} {oc : OC} {args : List Opd}
theorem y_end {hp' : Hp} (hh : F (fun k => decide (k < i)) = hp') (h : K { s with hp := hp' }) : opsF M F i [] K s := by subst hh; exact h
theorem y_op (d : D) (h1 : AnyF M F i oc (args.map s.get) d) (h : opsF M F (i + 1) r K (s.put dst d)) : opsF M F i ((⟨dst, oc, args, none⟩, q) :: r) K s := ⟨d, h1, h⟩
theorem any_still {ds : List D} {d : D} (hF : Still F i) (h : ∀ hp2, OcWp M oc ds hp2 (fun d' hp' => d' = d ∧ hp' = hp2)) : AnyF M F i oc ds d := fun E hE => by rw [hF E hE]; exact h _
theorem y_q {ds : List D} (d : D) (ha : args.map s.get = ds) (hF : Still F i) (ho : ∀ hp2, OcWp M oc ds hp2 (fun d' hp' => d' = d ∧ hp' = hp2)) (h : opsF M F (i + 1) r K (s.put dst d)) : opsF M F i ((⟨dst, oc, args, none⟩, q) :: r) K s :=
 y_op d (by rw [ha]; exact any_still hF ho) h
theorem y_c {ds : List D} {d : D} (ha : args.map s.get = ds) (h1 : AnyF M F i oc ds d) (h : opsF M F (i + 1) r K (s.put dst d)) : opsF M F i ((⟨dst, oc, args, none⟩, q) :: r) K s :=
 y_op d (by rw [ha]; exact h1) h
end
end GoV
end
section
set_option linter.unusedSimpArgs false
set_option linter.unusedVariables false
namespace GoV
open Go
def St.sel (s : St) (bl tl : List Nat) : St := ⟨D.rnL (posF bl) (posF tl) s.env, [], s.hp.sel bl tl⟩
end GoV
end