/- The engine, part p: one walk in the order of the text serves every order of a region that draws. Own work; no program in sight. -/
import Derived.Test.YtiodnobmnfjdlaaDoorEn
set_option linter.unusedSimpArgs false
namespace GoV
open Go

theorem snoc_ind {α : Type} {p : List α → Prop} (h0 : p []) (hs : ∀ l a, p l → p (l ++ [a])) (l : List α) : p l := by
  have h : ∀ l : List α, p l.reverse := by
    intro l
    induction l with
    | nil => simpa using h0
    | cons a l ih => rw [List.reverse_cons]; exact hs _ a ih
  have := h l.reverse
  rwa [List.reverse_reverse] at this

theorem befores_snoc (l : List Oper) (o : Oper) : befores (l ++ [o]) = befores l ++ [(o.after.toList.filter (Region.binds .any)).flatMap fun e => e.on :: (befores l).getD e.on []] := by
  simp [befores, List.foldl_append]

theorem befores_length : ∀ (l : List Oper), (befores l).length = l.length := by
  refine snoc_ind rfl fun l o ih => ?_
  rw [befores_snoc]; simp [ih]

theorem befores_prefix (l r : List Oper) : ∀ j, j < l.length → (befores (l ++ r)).getD j [] = (befores l).getD j [] := by
  refine snoc_ind (p := fun r => ∀ j, j < l.length → (befores (l ++ r)).getD j [] = (befores l).getD j []) (by simp) (fun r o ih => ?_) r
  intro j hj
  rw [← List.append_assoc, befores_snoc, ← ih j hj]
  have : j < (befores (l ++ r)).length := by rw [befores_length]; simp; omega
  simp [List.getD, List.getElem?_append_left this]

/-- What stands in a row of 'befores'. -/
theorem mem_befores {l : List Oper} {j i : Nat} {o : Oper} (hj : l[j]? = some o) (hi : i ∈ (befores l).getD j []) : ∃ e ∈ o.after, Region.binds .any e = true ∧ (i = e.on ∨ i ∈ (befores l).getD e.on []) := by
  have hlt : j < l.length := by
    rcases Nat.lt_or_ge j l.length with g | g
    · exact g
    · rw [List.getElem?_eq_none g] at hj; cases hj
  have hsplit : l = (l.take j ++ [o]) ++ l.drop (j + 1) := by
    have h1 : l.drop j = o :: l.drop (j + 1) := by
      rw [List.drop_eq_getElem_cons hlt]
      rw [List.getElem?_eq_getElem hlt] at hj; cases hj; rfl
    rw [List.append_assoc, List.singleton_append, ← h1, List.take_append_drop]
  have hlen : (l.take j).length = j := by simp; omega
  have hp : ∀ k, k < j + 1 → (befores l).getD k [] = (befores (l.take j ++ [o])).getD k [] := by
    intro k hk
    conv => lhs; rw [hsplit]
    exact befores_prefix _ _ k (by simp [hlen]; omega)
  rw [hp j (by omega), befores_snoc] at hi
  have e1 : (befores (l.take j) ++ [(o.after.toList.filter (Region.binds .any)).flatMap fun e => e.on :: (befores (l.take j)).getD e.on []]).getD j [] = (o.after.toList.filter (Region.binds .any)).flatMap fun e => e.on :: (befores (l.take j)).getD e.on [] := by
    have : (befores (l.take j)).length = j := by rw [befores_length, hlen]
    simp [List.getD, List.getElem?_append_right, this]
  rw [e1, List.mem_flatMap] at hi
  obtain ⟨e, he, hi⟩ := hi
  obtain ⟨he, hbd⟩ := List.mem_filter.1 he
  refine ⟨e, by simpa using he, hbd, ?_⟩
  rcases List.mem_cons.1 hi with h | h
  · exact .inl h
  · refine .inr ?_
    by_cases hk : e.on < j
    · rw [hp e.on (by omega), befores_prefix _ _ e.on (by rw [hlen]; exact hk)]; exact h
    · have : (befores (l.take j)).getD e.on [] = [] := by
        simp [List.getD, List.getElem?_eq_none (show (befores (l.take j)).length ≤ e.on by rw [befores_length, hlen]; omega)]
      rw [this] at h; cases h

def dstO (ops : Array Oper) (j : Nat) : Option Nat := (ops[j]?).bind (·.dst)

def sig (ops : Array Oper) (σ0 : Nat → D) (ds : Nat → D) (E : Nat → Bool) : Nat → Nat → D
  | 0 => σ0
  | k + 1 => if E k then updO (sig ops σ0 ds E k) (dstO ops k) (ds k) else sig ops σ0 ds E k

theorem updO_ne {σ : Nat → D} {dst : Option Nat} {d : D} {t : Nat} (h : dst ≠ some t) : updO σ dst d t = σ t := by
  cases dst with
  | none => rfl
  | some u => simp only [updO]; rw [if_neg]; intro e; subst e; exact h rfl

theorem updO_eq {σ : Nat → D} {dst : Option Nat} {d : D} {t : Nat} (h : dst = some t) : updO σ dst d t = d := by
  subst h; simp [updO]

section
variable {ops : Array Oper} {σ0 : Nat → D} {ds : Nat → D}

theorem sig_skip {E : Nat → Bool} {t a : Nat} : ∀ b, a ≤ b → (∀ j, a ≤ j → j < b → E j = true → dstO ops j ≠ some t) → sig ops σ0 ds E b t = sig ops σ0 ds E a t := by
  intro b
  induction b with
  | zero => intro h _; rw [Nat.le_zero.1 h]
  | succ b ih =>
    intro h hn
    rcases Nat.lt_or_ge b a with g | g
    · have : a = b + 1 := by omega
      rw [this]
    · simp only [sig]
      split
      · rename_i he
        rw [updO_ne (hn b g (by omega) he)]
        exact ih g fun j h1 h2 => hn j h1 (by omega)
      · exact ih g fun j h1 h2 => hn j h1 (by omega)

theorem sig_agree {E E' : Nat → Bool} {t : Nat} : ∀ k, (∀ j, j < k → dstO ops j = some t → E j = E' j) → sig ops σ0 ds E k t = sig ops σ0 ds E' k t := by
  intro k
  induction k with
  | zero => intro _; rfl
  | succ k ih =>
    intro h
    have ih' := ih fun j hj => h j (by omega)
    by_cases hd : dstO ops k = some t
    · simp only [sig, h k (by omega) hd]
      split
      · rw [updO_eq hd, updO_eq hd]
      · exact ih'
    · have e1 : sig ops σ0 ds E (k + 1) t = sig ops σ0 ds E k t := sig_skip (k + 1) (by omega) fun j h1 h2 _ => by rwa [show j = k by omega]
      have e2 : sig ops σ0 ds E' (k + 1) t = sig ops σ0 ds E' k t := sig_skip (k + 1) (by omega) fun j h1 h2 _ => by rwa [show j = k by omega]
      rw [e1, e2, ih']

/-- One operation more: it writes its slot last. -/
theorem sig_set {E : Nat → Bool} {i m : Nat} (him : i < m) (hE : E i = false) (hc : ∀ j t, j < m → j ≠ i → dstO ops i = some t → dstO ops j = some t → i < j → E j = false) :
    sig ops σ0 ds (fun j => E j || j == i) m = updO (sig ops σ0 ds E m) (dstO ops i) (ds i) := by
  funext t
  by_cases hd : dstO ops i = some t
  · rw [updO_eq hd]
    have e1 : sig ops σ0 ds (fun j => E j || j == i) m t = sig ops σ0 ds (fun j => E j || j == i) (i + 1) t := sig_skip m (by omega) fun j h1 h2 he => by
      have hji : j ≠ i := by omega
      intro hdj
      have := hc j t h2 hji hd hdj (by omega)
      simp [this, hji] at he
    rw [e1]
    simp only [sig, beq_self_eq_true, Bool.or_true, if_true]
    rw [updO_eq hd]
  · rw [updO_ne hd]
    refine sig_agree m fun j hj hdj => ?_
    have : j ≠ i := by intro e; subst e; exact hd hdj
    simp [this]
end

def unl (l : List Bool) : Nat := (l.filter fun b => !b).length

theorem unl_set : ∀ (l : List Bool) (i : Nat), l[i]? = some false → unl (l.set i true) + 1 = unl l
  | [], i, h => by simp at h
  | b :: l, 0, h => by simp at h; subst h; simp [unl]
  | b :: l, i + 1, h => by
    have := unl_set l i (by simpa using h)
    unfold unl at *
    rw [List.set_cons_succ]
    simp only [List.filter_cons]
    split <;> (try simp only [List.length_cons]) <;> omega

theorem unl_zero : ∀ (l : List Bool), unl l = 0 → ∀ i, i < l.length → l[i]? = some true
  | [], _, i, h => by simp at h
  | b :: l, h0, i, h => by
    simp only [unl, List.filter_cons] at h0
    split at h0
    · simp at h0
    · rename_i hb
      have hb' : b = true := by simpa using hb
      cases i with
      | zero => simp [hb']
      | succ i => simpa using unl_zero l h0 i (by simpa using h)

theorem resOps_length {C : Cfg} {ops : Array Oper} : ∀ (l : List Nat) (ros : List RO), resOps C ops l = some ros → ros.length = l.length
  | [], ros, h => by simp [resOps] at h; subst h; rfl
  | i :: l, ros, h => by
    obtain ⟨o, x, xs, _, _, h2, rfl⟩ := resOps_cons h
    simp [resOps_length l xs h2]

theorem resOps_drop {C : Cfg} {ops : Array Oper} : ∀ (n k i : Nat) (ros : List RO), resOps C ops (List.range' k n) = some ros → i < n → ∃ o x, ops[k + i]? = some o ∧ resOp1 C ops o = some x ∧ ros.drop i = x :: ros.drop (i + 1)
  | 0, _, i, _, _, h => by omega
  | n + 1, k, i, ros, h, hi => by
    rw [List.range'_succ] at h
    obtain ⟨o, x, xs, h0, h1, h2, rfl⟩ := resOps_cons h
    cases i with
    | zero => exact ⟨o, x, h0, h1, rfl⟩
    | succ i =>
      obtain ⟨o', x', g0, g1, g2⟩ := resOps_drop n (k + 1) i xs h2 (by omega)
      exact ⟨o', x', by rw [← g0]; congr 1; omega, g1, by simpa using g2⟩

theorem resOps_take {C : Cfg} {ops : Array Oper} : ∀ (m n k : Nat) (ros : List RO), resOps C ops (List.range' k n) = some ros → m ≤ n → resOps C ops (List.range' k m) = some (ros.take m)
  | 0, _, _, _, _, _ => rfl
  | m + 1, 0, _, _, _, h => by omega
  | m + 1, n + 1, k, ros, h, hm => by
    rw [List.range'_succ] at h
    obtain ⟨o, x, xs, h0, h1, h2, rfl⟩ := resOps_cons h
    rw [List.range'_succ]
    simp [resOps, h0, h1, resOps_take m n (k + 1) xs h2 (by omega)]

theorem masks_snoc (l : List Oper) (o : Oper) : masks (l ++ [o]) = masks l ++ [o.after.toList.foldl (fun m e => if Region.binds .any e then m ||| ((1 <<< e.on) ||| (masks l).getD e.on 0) else m) 0] := by
  simp [masks, List.foldl_append]

theorem masks_length : ∀ (l : List Oper), (masks l).length = l.length := by
  refine snoc_ind rfl fun l o ih => ?_
  rw [masks_snoc]; simp [ih]

/-- What the bits say is true. -/
theorem masks_sound : ∀ (l : List Oper) (j i : Nat), ((masks l).getD j 0).testBit i = true → i ∈ (befores l).getD j [] := by
  refine snoc_ind (by simp [masks, befores]) fun l o ih j i h => ?_
  rw [masks_snoc] at h
  rw [befores_snoc]
  by_cases hj : j < l.length
  · rw [List.getD, List.getElem?_append_left (by rw [masks_length]; exact hj)] at h
    rw [List.getD, List.getElem?_append_left (by rw [befores_length]; exact hj)]
    exact ih j i h
  · by_cases hj2 : j = l.length
    · subst hj2
      rw [List.getD, List.getElem?_append_right (by rw [masks_length]; exact Nat.le_refl _)] at h
      rw [List.getD, List.getElem?_append_right (by rw [befores_length]; exact Nat.le_refl _)]
      simp only [masks_length, Nat.sub_self, List.getElem?_cons_zero, Option.getD_some] at h
      simp only [befores_length, Nat.sub_self, List.getElem?_cons_zero, Option.getD_some]
      have key : ∀ (es : List Edge) (m : Nat), (es.foldl (fun m e => if Region.binds .any e then m ||| ((1 <<< e.on) ||| (masks l).getD e.on 0) else m) m).testBit i = true →
          m.testBit i = true ∨ i ∈ (es.filter (Region.binds .any)).flatMap fun e => e.on :: (befores l).getD e.on [] := by
        intro es
        induction es with
        | nil => intro m h; exact .inl h
        | cons e es ihe =>
          intro m h
          simp only [List.foldl_cons] at h
          by_cases hb : Region.binds .any e = true
          · rw [if_pos hb] at h
            rw [List.filter_cons_of_pos hb, List.flatMap_cons]
            rcases ihe _ h with q | q
            · rw [Nat.testBit_or, Nat.testBit_or, Bool.or_eq_true, Bool.or_eq_true] at q
              rcases q with q | q | q
              · exact .inl q
              · right
                have : i = e.on := by
                  rw [Nat.one_shiftLeft, Nat.testBit_two_pow] at q
                  exact (of_decide_eq_true q).symm
                subst this; simp
              · right; exact List.mem_append.2 (.inl (List.mem_cons_of_mem _ (ih e.on i q)))
            · right; exact List.mem_append.2 (.inr q)
          · rw [if_neg hb] at h
            rw [List.filter_cons_of_neg hb]
            exact ihe _ h
      rcases key _ 0 h with q | q
      · simp at q
      · exact q
    · have : (masks l ++ [o.after.toList.foldl (fun m e => if Region.binds .any e then m ||| ((1 <<< e.on) ||| (masks l).getD e.on 0) else m) 0])[j]? = none := by
        rw [List.getElem?_eq_none]; simp [masks_length]; omega
      rw [List.getD, this] at h
      simp at h

theorem drawOk_spec {ops : Array Oper} {m : Nat} (h : drawOk ops m = true) {j : Nat} {oj : Oper} (hj : ops[j]? = some oj) :
    (∀ e ∈ oj.after, Region.binds .any e = true → e.on < j) ∧ ∀ i, i < j → ∃ oi, ops[i]? = some oi ∧ (i ∈ (befores ops.toList).getD j [] ∨ (j < m ∧ clash ops oi oj = false)) := by
  have hlt : j < ops.size := (Array.getElem?_eq_some_iff.1 hj).1
  simp only [drawOk, List.all_eq_true, List.mem_range] at h
  have h1 := h j hlt
  rw [hj] at h1
  simp only [Bool.and_eq_true, Bool.or_eq_true, List.all_eq_true, List.mem_range] at h1
  obtain ⟨h2, h3⟩ := h1
  refine ⟨fun e he hbd => ?_, fun i hi => ?_⟩
  · have := (Array.all_eq_true_iff_forall_mem.1 h2) e he
    simpa [hbd] using this
  · rcases h3 with h3 | h3
    · have e : (masks ops.toList).getD j 0 = 2 ^ j - 1 := by simpa using h3
      refine ⟨_, Array.getElem?_eq_getElem (show i < ops.size by omega), .inl (masks_sound _ _ _ ?_)⟩
      rw [e, Nat.testBit_two_pow_sub_one]
      simpa using hi
    · have h4 := h3 i hi
      split at h4
      · rename_i oi ho
        refine ⟨oi, ho, ?_⟩
        rw [Bool.or_eq_true] at h4
        rcases h4 with q | q
        · exact .inl (masks_sound _ _ _ q)
        · exact .inr (by simpa using q)
      · cases h4

theorem clash_spec {ops : Array Oper} {x y : Oper} (h : clash ops x y = false) : (∀ t, x.dst = some t → t ∉ namesOf ops y) ∧ (∀ t, y.dst = some t → t ∉ namesOf ops x) := by
  simp only [clash, Bool.or_eq_false_iff] at h
  refine ⟨fun t ht hm => ?_, fun t ht hm => ?_⟩
  · rw [ht] at h; simp [List.contains_iff_mem, hm] at h
  · rw [ht] at h; simp [List.contains_iff_mem, hm] at h

theorem listed_size {listed : Array Bool} {i : Nat} : (listed.setIfInBounds i true).size = listed.size := by simp

theorem listed_set {listed : Array Bool} {i j : Nat} (hi : i < listed.size) : (listed.setIfInBounds i true).getD j false = (listed.getD j false || j == i) := by
  by_cases e : i = j
  · subst e; simp [hi]
  · rw [getD_set_ne false e]
    have : (j == i) = false := by simp; exact fun h => e h.symm
    simp [this]

/-- What comes before stands before. -/
theorem befores_lt {ops : Array Oper} {m : Nat} (hB : drawOk ops m = true) : ∀ (j : Nat), j < ops.size → ∀ i ∈ (befores ops.toList).getD j [], i < j := by
  intro j
  induction j using Nat.strongRecOn with
  | _ j ih =>
    intro hj i hi
    have hoj : ops[j]? = some ops[j] := Array.getElem?_eq_getElem hj
    have hoj' : ops.toList[j]? = some ops[j] := by rw [Array.getElem?_toList]; exact hoj
    obtain ⟨e, he, hbd, h1⟩ := mem_befores hoj' hi
    have hlt := (drawOk_spec hB hoj).1 e he hbd
    rcases h1 with h1 | h1
    · omega
    · have := ih e.on hlt (by omega) i h1; omega

/-- The store after the listed operations. -/
def hpE (hps : Nat → Hp) (fl E : Nat → Bool) : Nat → Hp
  | 0 => hps 0
  | k + 1 => if E k && !fl k then hps (k + 1) else hpE hps fl E k

section
variable {hps : Nat → Hp} {fl : Nat → Bool}
theorem hpE_none {E : Nat → Bool} : ∀ k, (∀ j, j < k → E j = false) → hpE hps fl E k = hps 0 := by
  intro k
  induction k with
  | zero => intro _; rfl
  | succ k ih => intro h; simp [hpE, h k (by omega), ih fun j hj => h j (by omega)]
theorem hpE_all {E : Nat → Bool} : ∀ k, (∀ j, j < k → fl j = false → E j = true) → (∀ j, j < k → fl j = true → hps (j + 1) = hps j) → hpE hps fl E k = hps k := by
  intro k
  induction k with
  | zero => intro _ _; rfl
  | succ k ih =>
    intro h hf
    have e := ih (fun j hj => h j (by omega)) (fun j hj => hf j (by omega))
    cases hb : fl k with
    | true => simp [hpE, hb, e, hf k (by omega) hb]
    | false => simp [hpE, hb, h k (by omega) hb]
theorem hpE_skip {E : Nat → Bool} {a : Nat} : ∀ b, a ≤ b → (∀ j, a ≤ j → j < b → fl j = false → E j = false) → hpE hps fl E b = hpE hps fl E a := by
  intro b
  induction b with
  | zero => intro h _; rw [Nat.le_zero.1 h]
  | succ b ih =>
    intro h hn
    rcases Nat.lt_or_ge b a with g | g
    · have : a = b + 1 := by omega
      rw [this]
    · rw [← ih g fun j h1 h2 => hn j h1 (by omega)]
      cases hb : fl b with
      | true => simp [hpE, hb]
      | false => simp [hpE, hb, hn b g (by omega) hb]
theorem hpE_agree {E E' : Nat → Bool} : ∀ k, (∀ j, j < k → fl j = false → E j = E' j) → hpE hps fl E k = hpE hps fl E' k := by
  intro k
  induction k with
  | zero => intro _; rfl
  | succ k ih =>
    intro h
    have e := ih fun j hj => h j (by omega)
    cases hb : fl k with
    | true => simp [hpE, hb, e]
    | false => simp [hpE, hb, h k (by omega) hb, e]
end

theorem isEff_free {oc : OC} (h : isEff oc = true) : isFree oc = false := by cases oc <;> simp_all [isEff, isFree]

/-- What may change the store is ordered with all that looks at it. -/
theorem quietAt_spec {bs : List Nat} {ros : List RO} {m j i : Nat} {y : RO} (h : quietAt bs ros m j = false) (hi : i < m) (hij : i ≠ j) (hy : ros[i]? = some y) (hf : isFree y.oc = false) :
    (bs.getD j 0).testBit i = true ∨ (bs.getD i 0).testBit j = true := by
  unfold quietAt at h
  split at h
  · split at h
    · have := List.any_eq_false.1 h i (List.mem_range.2 hi)
      simp only [hy, hf, unord, Bool.not_false, Bool.and_true, Bool.and_eq_true, bne_iff_ne, ne_eq, hij, not_false_eq_true, true_and, Bool.not_eq_true', not_and] at this
      cases h1 : (bs.getD j 0).testBit i with
      | true => exact .inl rfl
      | false =>
        cases h2 : (bs.getD i 0).testBit j with
        | true => exact .inr rfl
        | false =>
          exfalso
          have q := this h1
          exact q h2
    · cases h
  · cases h

theorem quietAt_free {bs : List Nat} {ros : List RO} {m j : Nat} {x : RO} (hx : ros[j]? = some x) (hf : isFree x.oc = true) : quietAt bs ros m j = true := by
  unfold quietAt
  simp only [hx]
  rw [if_neg]
  intro h; rw [isEff_free h] at hf; cases hf

section
variable {C : Cfg} {w0 : World} {B : Gh}

/-- THE REGION THAT DRAWS: whatever order the tape picks. -/
theorem draw_sound (hA : C.M.amb w0 B.own) {ops : Array Oper} {m : Nat} {ros : List RO} {K : St → Prop} {Q : Exit → Act → World → Prop} (hB : drawOk ops m = true) (hm : m ≤ ops.size) (hr : resOps C ops (List.range' 0 ops.size) = some ros)
    (hQ : ∀ s a w, K s → Sim C w0 B s a w → Q .normal a w) {s : St} (_hl : s.env.length = C.pers.length)
    {ds : Nat → D} {hps : Nat → Hp} {fl : Nat → Bool} {s1 : St} (hfl : fl = quietAt (masks ops.toList) ros m) (hk1 : opsWp C.M (ros.drop m) K s1) (hpm : hps m = s1.hp) (hl1 : s1.env.length = C.pers.length)
    (hfq : ∀ i, i < m → fl i = true → hps (i + 1) = hps i)
    (hst : ∀ i, i < m → ∃ o, ops[i]? = some o ∧ StepQ C ops (hps i) (hps (i + 1)) (sig ops (s.slot C.pers) ds (fun _ => true) i) o (ds i))
    (hend : sig ops (s.slot C.pers) ds (fun _ => true) m = s1.slot C.pers) :
    ∀ (fuel : Nat) (listed : Array Bool) (a : Act) (w : World), listed.size = ops.size → unl listed.toList ≤ fuel →
      (∀ j oj, ops[j]? = some oj → listed.getD j false = true → ∀ e ∈ oj.after, Region.binds .any e = true → listed.getD e.on false = true) →
      (((∀ j, listed.getD j false = true → j < m) ∧ SimF C w0 B (sig ops (s.slot C.pers) ds (fun j => listed.getD j false) m) (hpE hps fl (fun j => listed.getD j false) m) a w) ∨
        ∃ i s', m ≤ i ∧ (∀ j, j < ops.size → (listed.getD j false = true ↔ j < i)) ∧ Sim C w0 B s' a w ∧ opsWp C.M (ros.drop i) K s') →
      wpAny C.P .any ops Q fuel listed a w := by
  have hros : ros.length = ops.size := by rw [resOps_length _ _ hr]; simp
  -- what comes before an operation whose edges are met is listed
  have hsub : ∀ (listed : Array Bool), (∀ j oj, ops[j]? = some oj → listed.getD j false = true → ∀ e ∈ oj.after, Region.binds .any e = true → listed.getD e.on false = true) →
      ∀ j oj, ops[j]? = some oj → (∀ e ∈ oj.after, Region.binds .any e = true → listed.getD e.on false = true) → ∀ i ∈ (befores ops.toList).getD j [], listed.getD i false = true := by
    intro listed hcl j
    induction j using Nat.strongRecOn with
    | _ j ih =>
      intro oj hj ha i hi
      obtain ⟨e, he, hbd, h1⟩ := mem_befores (by simpa using hj) hi
      rcases h1 with h1 | h1
      · rw [h1]; exact ha e he hbd
      · have hlt := (drawOk_spec hB hj).1 e he hbd
        have hjs : j < ops.size := (Array.getElem?_eq_some_iff.1 hj).1
        have hoe : ops[e.on]? = some ops[e.on] := Array.getElem?_eq_getElem (by omega)
        exact ih e.on hlt _ hoe (hcl e.on _ hoe (ha e he hbd)) i h1
  -- from the first phase to the second
  have conv : ∀ (listed : Array Bool) (a : Act) (w : World), (∀ j, listed.getD j false = true → j < m) → (∀ j, j < m → listed.getD j false = true) →
      SimF C w0 B (sig ops (s.slot C.pers) ds (fun j => listed.getD j false) m) (hpE hps fl (fun j => listed.getD j false) m) a w → Sim C w0 B s1 a w := by
    intro listed a w h1 h2 hs
    have e : sig ops (s.slot C.pers) ds (fun j => listed.getD j false) m = s1.slot C.pers := by
      rw [← hend]; funext t
      exact sig_agree m fun j hj _ => h2 j hj
    obtain ⟨G, g1, gb, g2, g3, g4⟩ := hs
    rw [hpE_all m (fun j hj _ => h2 j hj) hfq] at g1
    exact ⟨G, by rw [← hpm]; exact g1, gb, g2, g3, hl1, by rw [← e]; exact g4⟩
  have fin : ∀ (listed : Array Bool) (a : Act) (w : World), (∀ j, j < ops.size → listed.getD j false = true) →
      (((∀ j, listed.getD j false = true → j < m) ∧ SimF C w0 B (sig ops (s.slot C.pers) ds (fun j => listed.getD j false) m) (hpE hps fl (fun j => listed.getD j false) m) a w) ∨
        ∃ i s', m ≤ i ∧ (∀ j, j < ops.size → (listed.getD j false = true ↔ j < i)) ∧ Sim C w0 B s' a w ∧ opsWp C.M (ros.drop i) K s') → Q .normal a w := by
    intro listed a w hall h
    rcases h with ⟨h1, h2⟩ | ⟨i, s', h1, h2, h3, h4⟩
    · have hs1 := conv listed a w h1 (fun j hj => hall j (by omega)) h2
      have hmn : ops.size ≤ m := by
        rcases Nat.eq_zero_or_pos ops.size with g | g
        · omega
        · have := h1 (ops.size - 1) (hall _ (by omega)); omega
      rw [List.drop_eq_nil_of_le (by omega)] at hk1
      exact hQ s1 a w hk1 hs1
    · have hin : ops.size ≤ i := by
        rcases Nat.eq_zero_or_pos ops.size with g | g
        · omega
        · have := (h2 (ops.size - 1) (by omega)).1 (hall _ (by omega)); omega
      rw [List.drop_eq_nil_of_le (by omega)] at h4
      exact hQ s' a w h4 h3
  have least : ∀ (listed : Array Bool), listed.size = ops.size → (∀ j oj, ops[j]? = some oj → listed.getD j false = true → ∀ e ∈ oj.after, Region.binds .any e = true → listed.getD e.on false = true) →
      Region.ready .any ops listed = [] → ∀ j, j < ops.size → listed.getD j false = true := by
    intro listed hsz hcl hr0 j
    induction j using Nat.strongRecOn with
    | _ j ih =>
      intro hj
      cases hb : listed.getD j false with
      | true => rfl
      | false =>
        exfalso
        have hoj : ops[j]? = some ops[j] := Array.getElem?_eq_getElem hj
        have : j ∈ Region.ready .any ops listed := by
          rw [mem_ready]
          refine ⟨?_, ops[j], hoj, fun e he hbd => ?_⟩
          · have hlt : j < listed.size := by omega
            simp [hlt] at hb ⊢; exact hb
          · have := (drawOk_spec hB hoj).1 e he hbd
            exact ih e.on this (by omega)
        rw [hr0] at this; cases this
  intro fuel
  induction fuel with
  | zero =>
    intro listed a w hsz hu hcl h
    have hall : ∀ j, j < ops.size → listed.getD j false = true := by
      intro j hj
      have hlt : j < listed.size := by omega
      have := unl_zero listed.toList (by omega) j (by simpa using hlt)
      simp [hlt] at this ⊢; exact this
    refine ⟨?_, fin listed a w hall h⟩
    cases hr0 : Region.ready .any ops listed with
    | nil => rfl
    | cons i l =>
      have : i ∈ Region.ready .any ops listed := by rw [hr0]; simp
      obtain ⟨h1, o, ho, _⟩ := mem_ready.1 this
      have hlt : i < ops.size := (Array.getElem?_eq_some_iff.1 ho).1
      have h2 := hall i hlt
      have hlt2 : i < listed.size := by omega
      simp [hlt2] at h1 h2; rw [h1] at h2; cases h2
  | succ fuel ih =>
    intro listed a w hsz hu hcl h
    refine ⟨fun hr0 => fin listed a w (least listed hsz hcl hr0) h, fun i hi => ?_⟩
    obtain ⟨hun, o, ho, hdeps⟩ := mem_ready.1 hi
    have hlt : i < ops.size := (Array.getElem?_eq_some_iff.1 ho).1
    have hlt2 : i < listed.size := by omega
    have hunf : listed.getD i false = false := by simp [hlt2] at hun ⊢; exact hun
    have hdeps' : ∀ e ∈ o.after, Region.binds .any e = true → listed.getD e.on false = true := hdeps
    have hbef := hsub listed hcl i o ho hdeps'
    have hcl' : ∀ j oj, ops[j]? = some oj → (listed.setIfInBounds i true).getD j false = true → ∀ e ∈ oj.after, Region.binds .any e = true → (listed.setIfInBounds i true).getD e.on false = true := by
      intro j oj hj hlj e he hbd
      rw [listed_set hlt2] at hlj ⊢
      simp only [Bool.or_eq_true, beq_iff_eq] at hlj ⊢
      rcases hlj with g | g
      · exact .inl (hcl j oj hj g e he hbd)
      · subst g
        rw [ho] at hj; cases hj
        exact .inl (hdeps' e he hbd)
    have hu' : unl (listed.setIfInBounds i true).toList ≤ fuel := by
      have := unl_set listed.toList i (by simp [hlt2] at hunf ⊢; exact hunf)
      simp only [Array.toList_setIfInBounds]; omega
    -- nothing behind i is listed, if i is of the tail
    have hafter : m ≤ i → ∀ j, j < ops.size → (listed.getD j false = true ↔ j < i) := by
      intro hmi j hj
      constructor
      · intro hlj
        rcases Nat.lt_trichotomy j i with g | g | g
        · exact g
        · subst g; rw [hunf] at hlj; cases hlj
        · exfalso
          have hoj : ops[j]? = some ops[j] := Array.getElem?_eq_getElem hj
          obtain ⟨oi, hoi, q⟩ := (drawOk_spec hB hoj).2 i g
          rcases q with q | q
          · have := hsub listed hcl j _ hoj (hcl j _ hoj hlj) i q
            rw [hunf] at this; cases this
          · omega
      · intro hji
        obtain ⟨oi, hoi, q⟩ := (drawOk_spec hB ho).2 j hji
        rcases q with q | q
        · exact hbef j q
        · omega
    unfold wpOp
    rw [ho]
    by_cases him : i < m
    · -- a quiet one
      rcases h with ⟨h1, h2⟩ | ⟨i', s', h1, h2, h3, h4⟩
      · obtain ⟨o', ho', hq⟩ := hst i him
        rw [ho] at ho'; cases ho'
        have ords : ∀ j, j < m → j ≠ i → ∀ t, t ∈ namesOf ops o → dstO ops j = some t → (listed.getD j false = true ↔ j < i) := by
          intro j hj hji t ht hd
          have hjs : j < ops.size := by omega
          have hoj : ops[j]? = some ops[j] := Array.getElem?_eq_getElem hjs
          have hdj : ops[j].dst = some t := by simpa [dstO, hoj] using hd
          constructor
          · intro hlj
            rcases Nat.lt_or_ge j i with g | g
            · exact g
            · exfalso
              obtain ⟨oi, hoi, q⟩ := (drawOk_spec hB hoj).2 i (by omega)
              rw [ho] at hoi; cases hoi
              rcases q with q | q
              · have := hsub listed hcl j _ hoj (hcl j _ hoj hlj) i q
                rw [hunf] at this; cases this
              · exact (clash_spec q.2).2 t hdj ht
          · intro g
            obtain ⟨oi, hoi, q⟩ := (drawOk_spec hB ho).2 j g
            rw [hoj] at hoi; cases hoi
            rcases q with q | q
            · exact hbef j q
            · exact absurd ht ((clash_spec q.2).1 t hdj)
        have hlook : ∀ t ∈ o.looksAt ops, sig ops (s.slot C.pers) ds (fun _ => true) i t = sig ops (s.slot C.pers) ds (fun j => listed.getD j false) m t := by
          intro t ht
          have ht' : t ∈ namesOf ops o := by simp [namesOf, ht]
          have e1 : sig ops (s.slot C.pers) ds (fun j => listed.getD j false) m t = sig ops (s.slot C.pers) ds (fun j => listed.getD j false) i t := by
            refine sig_skip m (by omega) fun j g1 g2 g3 hd => ?_
            by_cases hji : j = i
            · subst hji; rw [hunf] at g3; cases g3
            · have := (ords j g2 hji t ht' hd).1 g3; omega
          rw [e1]
          exact sig_agree i fun j hj hd => ((ords j (by omega) (by omega) t ht' hd).2 hj).symm
        obtain ⟨o', x, r1, r2, r3⟩ := resOps_drop _ _ i ros hr hlt
        rw [Nat.zero_add, ho] at r1; cases r1
        have hx : ros[i]? = some x := by
          have := List.getElem?_drop (xs := ros) (i := i) (j := 0)
          rw [r3] at this; simpa using this.symm
        have hL : ∀ j, (listed.setIfInBounds i true).getD j false = (listed.getD j false || j == i) := fun j => listed_set hlt2
        have hstep : StepQ C ops (hpE hps fl (fun j => listed.getD j false) m) (hpE hps fl (fun j => (listed.setIfInBounds i true).getD j false) m) (sig ops (s.slot C.pers) ds (fun _ => true) i) o (ds i) := by
          by_cases hfree : isFree x.oc = true
          · have hfi : fl i = true := by rw [hfl]; exact quietAt_free hx hfree
            have e : hpE hps fl (fun j => (listed.setIfInBounds i true).getD j false) m = hpE hps fl (fun j => listed.getD j false) m := by
              refine hpE_agree m fun j hj hfj => ?_
              have : j ≠ i := by intro e; subst e; rw [hfi] at hfj; cases hfj
              simp only [hL]; simp [this]
            rw [e]
            exact hq.free r2 hfree
          · have hfree : isFree x.oc = false := by simpa using hfree
            have hord : ∀ j, j < m → j ≠ i → fl j = false → (j < i ∧ listed.getD j false = true) ∨ (i < j ∧ listed.getD j false = false) := by
              intro j hj hji hfj
              rw [hfl] at hfj
              rcases quietAt_spec hfj him (fun e => hji e.symm) hx hfree with q | q
              · have q' := masks_sound _ _ _ q
                refine .inr ⟨befores_lt hB j (by omega) i q', ?_⟩
                cases hb : listed.getD j false with
                | false => rfl
                | true =>
                  exfalso
                  have hoj : ops[j]? = some ops[j] := Array.getElem?_eq_getElem (by omega)
                  have := hsub listed hcl j _ hoj (hcl j _ hoj hb) i q'
                  rw [hunf] at this; cases this
              · have q' := masks_sound _ _ _ q
                exact .inl ⟨befores_lt hB i hlt j q', hbef j q'⟩
            have e1 : hpE hps fl (fun j => listed.getD j false) m = hps i := by
              rw [hpE_skip (a := i) m (by omega) fun j g1 g2 g3 => ?_]
              · refine hpE_all i (fun j hj hfj => ?_) fun j hj => hfq j (by omega)
                rcases hord j (by omega) (by omega) hfj with q | q
                · exact q.2
                · omega
              · by_cases e : j = i
                · subst e; exact hunf
                · rcases hord j g2 e g3 with q | q
                  · omega
                  · exact q.2
            have e2 : hpE hps fl (fun j => (listed.setIfInBounds i true).getD j false) m = hps (i + 1) := by
              rw [hpE_skip (a := i + 1) m (by omega) fun j g1 g2 g3 => ?_]
              · refine hpE_all (i + 1) (fun j hj hfj => ?_) fun j hj => hfq j (by omega)
                simp only [hL]
                by_cases e : j = i
                · subst e; simp
                · rcases hord j (by omega) e hfj with q | q
                  · simp only [q.2, Bool.true_or]
                  · omega
              · simp only [hL]
                have e : j ≠ i := by omega
                rcases hord j g2 e g3 with q | q
                · omega
                · simp only [q.2, Bool.false_or]; simp [e]
            rw [e1, e2]; exact hq
        refine StepQ.sound hA (hstep.congr hlook) h2 fun a' w' hs' => ih _ a' w' (by simpa using hsz) hu' hcl' (.inl ⟨fun j hj => ?_, ?_⟩)
        · rw [listed_set hlt2] at hj
          simp only [Bool.or_eq_true, beq_iff_eq] at hj
          rcases hj with g | g
          · exact h1 j g
          · omega
        · have e2 : sig ops (s.slot C.pers) ds (fun j => (listed.setIfInBounds i true).getD j false) m = updO (sig ops (s.slot C.pers) ds (fun j => listed.getD j false) m) (dstO ops i) (ds i) := by
            rw [← sig_set him hunf]
            · congr 1; funext j; exact listed_set hlt2
            · intro j t g1 g2 g3 g4 g5
              cases hb : listed.getD j false with
              | false => rfl
              | true =>
                have hoi : o.dst = some t := by simpa [dstO, ho] using g3
                have := (ords j g1 g2 t (by simp [namesOf, hoi]) g4).1 hb
                omega
          rw [e2]
          have : dstO ops i = o.dst := by simp [dstO, ho]
          rw [this]; exact hs'
      · exfalso
        have := (h2 i hlt).2 (by omega)
        rw [hunf] at this; cases this
    · -- one of the tail
      have hmi : m ≤ i := by omega
      have hiff := hafter hmi
      obtain ⟨s', hs', hk'⟩ : ∃ s', Sim C w0 B s' a w ∧ opsWp C.M (ros.drop i) K s' := by
        rcases h with ⟨h1, h2⟩ | ⟨i', s', h1, h2, h3, h4⟩
        · have hie : i = m := by
            rcases Nat.lt_or_ge m i with g | g
            · have := h1 m ((hiff m (by omega)).2 g); omega
            · omega
          subst hie
          exact ⟨s1, conv listed a w h1 (fun j hj => (hiff j (by omega)).2 hj) h2, hk1⟩
        · have hie : i' = i := by
            rcases Nat.lt_trichotomy i' i with g | g | g
            · have q1 := (hiff i' (by omega)).2 g
              have := (h2 i' (by omega)).1 q1; omega
            · exact g
            · have := (h2 i hlt).2 g; rw [hunf] at this; cases this
          subst hie
          exact ⟨s', h3, h4⟩
      obtain ⟨o', x, g1, g2, g3⟩ := resOps_drop _ _ i ros hr hlt
      rw [Nat.zero_add, ho] at g1; cases g1
      rw [g3] at hk'
      refine head_sound hA g2 (K := opsWp C.M (ros.drop (i + 1)) K) (fun s'' a' w' q1 q2 => ih _ a' w' (by simpa using hsz) hu' hcl' (.inr ⟨i + 1, s'', by omega, fun j hj => ?_, q2, q1⟩)) hk' hs'
      rw [listed_set hlt2]
      simp only [Bool.or_eq_true, beq_iff_eq]
      have := hiff j hj
      constructor
      · rintro (q | q)
        · have := this.1 q; omega
        · omega
      · intro q
        by_cases e : j = i
        · exact .inr e
        · exact .inl (this.2 (by omega))

theorem tailAt_le (ops : Array Oper) : tailAt ops ≤ ops.size := by
  unfold tailAt
  have h : ∀ (l : List Nat) (m n : Nat) (p : Nat → Bool), m ≤ n → (∀ j ∈ l, j < n) → l.foldl (fun m j => if p j then m else j + 1) m ≤ n := by
    intro l
    induction l with
    | nil => intro m n p h _; simpa using h
    | cons j l ih =>
      intro m n p h hj
      simp only [List.foldl_cons]
      refine ih _ n p ?_ (fun k hk => hj k (by simp [hk]))
      split
      · exact h
      · have := hj j (by simp); omega
  exact h _ 0 ops.size _ (Nat.zero_le _) (fun j hj => List.mem_range.1 hj)

/-- The flags, by places. -/
theorem flags_get {ops : Array Oper} {ros : List RO} {m i : Nat} {q : Bool} (hi : i < m) (h : ((flags ops ros m)[i]?).map (·.2) = some q) : quietAt (masks ops.toList) ros m i = q := by
  unfold flags at h
  rw [List.getElem?_take_of_lt hi] at h
  simp only [List.zip, List.getElem?_zipWith, List.getElem?_map] at h
  cases h1 : ros[i]? with
  | none => simp [h1] at h
  | some x => simpa [h1, List.getElem?_range hi] using h

theorem flags_fst {ops : Array Oper} {ros : List RO} {m : Nat} (h : m ≤ ros.length) : (flags ops ros m).map (·.1) = ros.take m := by
  unfold flags
  refine List.ext_getElem? fun i => ?_
  rcases Nat.lt_or_ge i m with hi | hi
  · simp only [List.getElem?_map, List.getElem?_take_of_lt hi, List.zip, List.getElem?_zipWith]
    rw [List.getElem?_range hi, List.getElem?_eq_getElem (show i < ros.length by omega)]
    rfl
  · rw [List.getElem?_map, List.getElem?_eq_none (by simp; omega), List.getElem?_eq_none (by simp; omega)]
    rfl

theorem swp_regD {Q : Ex → St → Prop} {s : St} {qs : List (RO × Bool)} {ros : List RO} (h : opsQ C.M qs (fun s1 => opsWp C.M ros (fun s' => Q .normal s'.done) s1) s) : SWp C (.regD qs ros) Q s := by
  refine ⟨fun c hc w0 B hA a w hs => ?_⟩
  have hreg : ∀ id ops d, c = .region id ops d → _ := fun id ops d e => res_region (e ▸ hc)
  cases c <;> (try simp only [resCode] at hc) <;> (try (cases hc; done))
  case region id ops d =>
    rcases hreg _ _ _ rfl with ⟨r, h1, _⟩ | ⟨r, h1, rfl, hB1, hB2, hr⟩ | h1
    · cases h1
    · cases h1
      have hB := And.intro hB1 hB2
      · skip
        rw [List.range_eq_range'] at hr
        have hl : s.env.length = C.pers.length := by obtain ⟨_, _, _, _, _, q, _⟩ := hs; exact q
        have hrl : tailAt ops ≤ r.length := by rw [resOps_length _ _ hr]; simpa using tailAt_le ops
        obtain ⟨ds, σ, hps, s1, k1, k2, k2', k3, k4, k5, k6⟩ := opsQ_trace (tailAt ops) 0 _ _ s (resOps_take _ _ 0 _ hr (tailAt_le ops)) (flags_fst hrl) hl h
        have hsig : ∀ i, i ≤ tailAt ops → σ i = sig ops (s.slot C.pers) ds (fun _ => true) i := by
          intro i
          induction i with
          | zero => intro _; exact k4
          | succ i ih =>
            intro hi
            obtain ⟨o, q, q1, _, _, _, q3⟩ := k6 i (Nat.zero_le _) (by omega)
            rw [q3, ih (by omega)]
            simp [sig, dstO, q1]
        refine wp_region_any hB.2 (draw_sound hA (s := s) (s1 := s1) (K := fun s' => Q .normal s'.done) (ds := ds) (hps := hps) (m := tailAt ops) (ros := r) hB.1 (tailAt_le ops) hr (fun s a w hk hs => ⟨s.done, weak_done _ _ _ _ hs, hk⟩) hl rfl k1 (by rw [← k2', Nat.zero_add]) k3 (fun i hi hf => ?_) (fun i hi => ?_) ?_ ops.size _ a _ (by simp) ?_ ?_ (.inl ⟨?_, ?_⟩))
        · obtain ⟨o, q, q1, q2, q3, _⟩ := k6 i (Nat.zero_le _) (by omega)
          exact q3 ((flags_get hi (by simpa using q2)) ▸ hf)
        · obtain ⟨o, q, q1, _, _, q2, _⟩ := k6 i (Nat.zero_le _) (by omega)
          rw [hsig i (by omega)] at q2
          exact ⟨o, q1, q2⟩
        · rw [← hsig _ (Nat.le_refl _), ← k5, Nat.zero_add]
        · simp only [unl, Array.toList_replicate]
          exact Nat.le_trans (List.length_filter_le _ _) (by simp)
        · intro j oj hj hlj
          exfalso
          have : (Array.replicate ops.size false).getD j false = false := by
            simp only [Array.getD_eq_getD_getElem?, Array.getElem?_replicate]; split <;> rfl
          rw [this] at hlj; cases hlj
        · intro j hlj
          exfalso
          have : (Array.replicate ops.size false).getD j false = false := by
            simp only [Array.getD_eq_getD_getElem?, Array.getElem?_replicate]; split <;> rfl
          rw [this] at hlj; cases hlj
        · obtain ⟨G, g0, gb, g1, g2, g3, g4⟩ := hs
          have hrep : ∀ j, (Array.replicate ops.size false).getD j false = false := by
            intro j
            simp only [Array.getD_eq_getD_getElem?, Array.getElem?_replicate]; split <;> rfl
          have e : sig ops (s.slot C.pers) ds (fun j => (Array.replicate ops.size false).getD j false) (tailAt ops) = s.slot C.pers := by
            funext t
            exact sig_skip (ops := ops) (σ0 := s.slot C.pers) (ds := ds) (E := fun j => (Array.replicate ops.size false).getD j false) (t := t) (a := 0) (tailAt ops) (Nat.zero_le _) (fun j _ _ hE => by
              rw [hrep] at hE; cases hE)
          rw [e, hpE_none _ (fun j _ => hrep j), k2]
          obtain ⟨q1, q2⟩ := g0.drawn (w.drawn + 1)
          exact ⟨G, q1, gb, g1, g2, fun t => Rel.evo _ q2 (g4 t)⟩
    · cases h1
  all_goals exfalso; (repeat' split at hc) <;> simp_all
end
end GoV
