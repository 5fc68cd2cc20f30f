/- Own texts, merged by a program: the engine that walks the code, and what the functions that the law reaches compute. -/
import Derived.Test.YtkobjnpmjngklaaGreatDoorQc1
import Derived.MapKept
import Derived.Maps.RangeRun
import Derived.RangeFuncCalls
import Derived.RangeFuncSeq
import Derived.OrdersIn
section
set_option linter.unusedSimpArgs false
set_option linter.unusedVariables false
set_option maxHeartbeats 1000000
namespace GoV
open Go
section
variable {P : Program} {ρ : Operand → Value} {o : Oper} {w0 : World} {g0 : Gh} {hp : Hp} {w : World} {g : Gh} {K : D → Hp → Prop}
def keyV1 : D → Value
 | .int k n => .int k n
 | .bool b => .bool b
 | .str s => .string ⟨s.toArray⟩
 | _ => Go.undef
def keyV : D → Value
 | .int k n => .int k n
 | .bool b => .bool b
 | .str s => .string ⟨s.toArray⟩
 | .agg cs => .agg (cs.map keyV1).toArray
 | _ => Go.undef
def MkTy (P : Program) (kd : MK) (k : TypeId) : Prop :=
 match kd with
 | .int q => P.underlying k = some (.int q)
 | .bool => P.underlying k = some .bool
 | .str => P.underlying k = some .string
 | .st ks => ∃ fs, P.underlying k = some (.struct fs) ∧ P.stoodInHeld k = false ∧ zCb P 40 0 fs.toList = some ks
theorem mkOf_spec {t e : TypeId} {kd : MK} (h : mkOf P t = some (kd, e)) : ∃ k, P.underlying t = some (.map k e) ∧ MkTy P kd k := by
 unfold mkOf at h
 split at h
 case h_2 => cases h
 rename_i k e' hu
 split at h
 iterate 3
  ·rename_i hk; simp only [Option.some.injEq, Prod.mk.injEq] at h; obtain ⟨rfl, rfl⟩ := h; exact ⟨k, hu, hk⟩
 ·rename_i fs hk
  split at h
  ·rename_i hst
   obtain ⟨ks, h1, h2⟩ := Option.map_eq_some_iff.1 h
   simp only [Prod.mk.injEq] at h2; obtain ⟨rfl, rfl⟩ := h2
   exact ⟨k, hu, fs, hk, hst, h1⟩
  ·cases h
 ·cases h
theorem str_beq (s t : List UInt8) : ((⟨s.toArray⟩ : ByteArray) == ⟨t.toArray⟩) = (s == t) := by
 rw [Bool.eq_iff_iff, MapKept.bytes_beq]
 simp
theorem sok_eq {e : EK} {a b : D} (ha : sok e a = true) (hb : sok e b = true) : eqD e a b = some (keq1 a b) := by
 cases e <;> cases a <;> (try simp [sok] at ha) <;> cases b <;> (try simp [sok] at hb)
 ·rename_i k n k' m
  cases k <;> simp [sok] at ha
  cases k' <;> simp [sok] at hb
  simp [eqD, keq1]
 iterate 2
  ·simp [eqD, keq1]
theorem sokL_eq : ∀ {ks : List EK} {a b : List D}, sokL ks a = true → sokL ks b = true → eqDs ks a b = some (keqL a b)
 | [], [], [], _, _ => rfl
 | [], _ :: _, _, h, _ => by simp [sokL] at h
 | [], [], _ :: _, _, h => by simp [sokL] at h
 | _ :: _, [], _, h, _ => by simp [sokL] at h
 | _ :: _, _ :: _, [], _, h => by simp [sokL] at h
 | e :: ks, x :: a, y :: b, h1, h2 => by
   simp only [sokL, Bool.and_eq_true] at h1 h2
   simp only [eqDs, sok_eq h1.1 h2.1, sokL_eq h1.2 h2.2, keqL]
theorem sok_V {e : EK} {a b : D} (ha : sok e a = true) (hb : sok e b = true) (h : keq1 a b = true) : a = b := by
 cases e <;> cases a <;> (try simp [sok] at ha) <;> cases b <;> (try simp [sok] at hb)
 ·rename_i k n k' m
  cases k <;> simp [sok] at ha
  cases k' <;> simp [sok] at hb
  simp [keq1] at h; rw [h]
 iterate 2
  ·simp [keq1] at h; rw [h]
theorem sokL_V : ∀ {ks : List EK} {a b : List D}, sokL ks a = true → sokL ks b = true → keqL a b = true → a = b
 | [], [], [], _, _, _ => rfl
 | [], _ :: _, _, h, _, _ => by simp [sokL] at h
 | [], [], _ :: _, _, h, _ => by simp [sokL] at h
 | _ :: _, [], _, h, _, _ => by simp [sokL] at h
 | _ :: _, _ :: _, [], _, h, _ => by simp [sokL] at h
 | e :: ks, x :: a, y :: b, h1, h2, h3 => by
   simp only [sokL, keqL, Bool.and_eq_true] at h1 h2 h3
   rw [sok_V h1.1 h2.1 h3.1, sokL_V h1.2 h2.2 h3.2]
theorem sok_rel {e : EK} {d : D} {y : Value} (hk : sok e d = true) (h : Rel w g d y) : y = keyV1 d := by
 cases e <;> cases d <;> (try simp [sok] at hk) <;> simpa [Rel, keyV1] using h
theorem sokL_rel : ∀ {ks : List EK} {cs : List D} {xs : List Value}, sokL ks cs = true → RelL w g cs xs → xs = cs.map keyV1
 | [], [], xs, _, h => by rw [h.inv_nil]; rfl
 | [], _ :: _, _, h, _ => by simp [sokL] at h
 | _ :: _, [], _, h, _ => by simp [sokL] at h
 | e :: ks, d :: cs, xs, hk, h => by
   simp only [sokL, Bool.and_eq_true] at hk
   obtain ⟨y, ys, rfl, h1, h2⟩ := h.inv
   rw [sok_rel hk.1 h1, sokL_rel hk.2 h2]; rfl
theorem sok_bits {e : EK} {a : D} (n : Nat) (ha : sok e a = true) : Instr.sameBits n (keyV1 a) (keyV1 a) = true := by
 cases e <;> cases a <;> (try simp [sok] at ha) <;> simp [Instr.sameBits, keyV1, str_beq]
theorem sokL_bits (n : Nat) : ∀ {ks : List EK} {cs : List D}, sokL ks cs = true → (((cs.map keyV1).zip (cs.map keyV1)).all fun (x, y) => Instr.sameBits n x y) = true
 | [], [], _ => rfl
 | [], _ :: _, h => by simp [sokL] at h
 | _ :: _, [], h => by simp [sokL] at h
 | e :: ks, d :: cs, hk => by
   simp only [sokL, Bool.and_eq_true] at hk
   simp only [List.map_cons, List.zip_cons_cons, List.all_cons, sok_bits n hk.1, Bool.true_and]
   exact sokL_bits n hk.2
theorem zGi {kd : MK} {d : D} {y : Value} (hk : keyOk kd d = true) (h : Rel w g d y) : y = keyV d := by
 cases kd
 case st ks =>
  cases d <;> simp [keyOk] at hk
  simp only [Rel] at h
  obtain ⟨xs, rfl, hr, _⟩ := h
  rw [sokL_rel hk hr]; rfl
 all_goals cases d <;> simp [keyOk] at hk <;> simpa [Rel, keyV] using h
theorem keq_V {kd : MK} {a b : D} (ha : keyOk kd a = true) (hb : keyOk kd b = true) (h : keq a b = true) : a = b := by
 cases kd
 case st ks =>
  cases a <;> simp [keyOk] at ha
  cases b <;> simp [keyOk] at hb
  rw [sokL_V ha hb (by simpa [keq] using h)]
 all_goals cases a <;> simp [keyOk] at ha <;> cases b <;> simp [keyOk] at hb
 ·subst ha; subst hb; simp [keq] at h; rw [h]
 iterate 2
  ·simp [keq] at h; rw [h]
theorem sameBits_key {kd : MK} {a : D} (ha : keyOk kd a = true) : Instr.sameBits 10000 (keyV a) (keyV a) = true := by
 cases kd
 case st ks =>
  cases a <;> simp [keyOk] at ha
  have := sokL_bits 9999 ha
  simp only [keyV, Instr.sameBits, beq_self_eq_true, Bool.true_and]
  exact this
 all_goals cases a <;> simp [keyOk] at ha <;> simp [Instr.sameBits, keyV, str_beq]
def chkF (b : Bool) (m : Nat) (cs : Array Value) : List Field → Sem Unit
 | [] => pure ()
 | f :: fs => do
   if f.name ≠ "_" then Instr.checkKey b m f.type (← part f.type cs f.offset)
   chkF b m cs fs
theorem chk_struct {b : Bool} {n : Nat} {kt : TypeId} {fs : Array Field} {cs : Array Value} (hu : P.underlying kt = some (.struct fs)) :
 (Instr.checkKey b (n + 1) kt (.agg cs)).run P w = (chkF b n cs fs.toList).run P w := by
 unfold Instr.checkKey
 simp only [Sem.run_bind, run_underlying hu, Result.andThen]
 rw [← Array.forIn_toList]
 generalize fs.toList = l
 clear hu
 induction l generalizing w with
 | nil => simp [chkF]
 | cons f l ih =>
   rw [List.forIn_cons, chkF]
   by_cases hf : f.name ≠ "_"
   ·simp only [if_pos hf, Sem.run_bind]
    cases h1 : (part f.type cs f.offset).run P w with
    | ok a w1 =>
      simp only [Result.andThen]
      cases h2 : (Instr.checkKey b n f.type a).run P w1 with
      | ok u w2 =>
        simp only [Result.andThen, Sem.run_pure]
        exact ih
      | halt h w2 => rfl
    | halt h w1 => rfl
   ·simp only [if_neg hf, Sem.run_bind, Sem.run_pure, Result.andThen]
    exact ih
theorem zFg {b : Bool} {m : Nat} : ∀ (d : Nat) (M : Nat) (_ : d ≤ M) {xs : List Value} (fs : List Field) (n : Nat) (ks : List EK) (ds : List D), zCb P d n fs = some ks →
 sokL ks ds = true → RelL w g ds (xs.drop n) → ∀ w1 : World, (chkF b (m + M) xs.toArray fs).run P w1 = .ok () w1
 | 0, _, _, _, _, _, _, _, hk, _, _, _ => by simp [zCb] at hk
 | d + 1, _, _, _, [], n, ks, ds, hk, hb, _, w1 => by simp [chkF]
 | d + 1, 0, hdM, _, f :: fs, n, ks, ds, hk, hb, h1, w1 => by omega
 | d + 1, M + 1, hdM, xs, f :: fs, n, ks, ds, hk, hb, h1, w1 => by
   simp only [zCb] at hk
   split at hk
   case isFalse => cases hk
   rename_i hf
   obtain ⟨hf1, hf2⟩ := hf
   have leaf : ∀ (e : EK) (r1 : List EK) (dd : TypeDesc), ks = e :: r1 → P.underlying f.type = some dd → zCb P d (n + 1) fs = some r1 → zBi dd = false → (∀ c, sok e c = true → MapKept.IsKey dd (keyV1 c) ∨ ∀ k v w1, (Instr.checkKey b (k + 1) f.type v).run P w1 = .ok () w1) →
    (chkF b (m + (M + 1)) xs.toArray (f :: fs)).run P w1 = .ok () w1 := by
    intro e r1 dd hks hu hrest hd hkk
    subst hks
    cases ds with
    | nil => simp [sokL] at hb
    | cons x xs' =>
      simp only [sokL, Bool.and_eq_true] at hb
      obtain ⟨u, us, hu1, hu2, hu3⟩ := h1.inv
      have hx : xs[n]? = some u := by have := congrArg (·[0]?) hu1; simpa using this
      have hxs : xs.drop (n + 1) = us := by have := congrArg List.tail hu1; simpa using this
      have p1 := fun w1 => zDe (P := P) hu hd xs.toArray n u (by simpa using hx) w1
      have ih := zFg (b := b) (m := m) d (M + 1) (by omega) fs (n + 1) r1 xs' hrest hb.2 (by rw [hxs]; exact hu3) w1
      have hv := sok_rel hb.1 hu2
      have hc : (Instr.checkKey b (m + M + 1) f.type u).run P w1 = .ok () w1 := by
       rcases hkk x hb.1 with q | q
       ·rw [hv]; exact MapKept.run_checkKey hu q b (m + M)
       ·exact q _ _ _
      simp only [chkF, hf1, ne_eq, hf2, not_false_eq_true, if_true, Sem.run_bind, p1, Result.andThen_ok]
      rw [show m + (M + 1) = m + M + 1 by omega, hc]
      simp only [Result.andThen_ok]
      rw [show m + M + 1 = m + (M + 1) by omega, ih]
   split at hk
   case h_5 => cases hk
   case h_1 k hu =>
    obtain ⟨r1, hr, rfl⟩ := Option.map_eq_some_iff.1 hk
    refine leaf .int r1 _ rfl hu hr rfl fun c hc => .inr fun k v w1 => ?_
    unfold Instr.checkKey
    simp only [Sem.run_bind, run_underlying hu, Result.andThen]
    rfl
   case h_2 hu =>
    obtain ⟨r1, hr, rfl⟩ := Option.map_eq_some_iff.1 hk
    refine leaf .bool r1 _ rfl hu hr rfl fun c hc => .inr fun k v w1 => ?_
    unfold Instr.checkKey
    simp only [Sem.run_bind, run_underlying hu, Result.andThen]
    rfl
   case h_3 hu =>
    obtain ⟨r1, hr, rfl⟩ := Option.map_eq_some_iff.1 hk
    refine leaf .str r1 _ rfl hu hr rfl fun c hc => .inr fun k v w1 => ?_
    unfold Instr.checkKey
    simp only [Sem.run_bind, run_underlying hu, Result.andThen]
    rfl
   case h_4 gs hu =>
    split at hk
    case h_2 => cases hk
    rename_i k1 hk1
    split at hk
    case isFalse => cases hk
    rename_i hst
    obtain ⟨hst1, hsz⟩ := hst
    obtain ⟨r1, hr, rfl⟩ := Option.map_eq_some_iff.1 hk
    have hsp : ∀ (ks r : List EK) (ds : List D), sokL (ks ++ r) ds = true → sokL ks (ds.take ks.length) = true ∧ sokL r (ds.drop ks.length) = true := by
     intro ks
     induction ks with
     | nil => intro r ds h; exact ⟨by simp [sokL], by simpa using h⟩
     | cons e ks ih =>
       intro r ds h
       cases ds with
       | nil => simp [sokL] at h
       | cons x ds =>
         simp only [List.cons_append, sokL, Bool.and_eq_true] at h
         obtain ⟨a1, a2⟩ := ih r ds h.2
         exact ⟨by simp [sokL, h.1, a1], by simpa using a2⟩
    obtain ⟨q1, q2⟩ := hsp k1 r1 ds hb
    have p1 := fun w1 => zDd (P := P) hu rfl hsz xs.toArray n w1
    have hx1 : (xs.toArray.extract n (n + k1.length)) = ((xs.drop n).take k1.length).toArray := by
     apply Array.ext'; simp [List.take_drop]
    have hin := zFg (b := b) (m := m) (xs := (xs.drop n).take k1.length) d M (by omega) gs.toList 0 k1 _ hk1 q1 (by simpa using h1.take k1.length) w1
    have ih := zFg (b := b) (m := m) d (M + 1) (by omega) fs (n + k1.length) r1 _ hr q2 (by rw [← List.drop_drop]; exact h1.drop k1.length) w1
    have hst' := chk_struct (w := w1) (b := b) (n := m + M) (cs := ((xs.drop n).take k1.length).toArray) hu
    simp only [chkF, hf1, ne_eq, hf2, not_false_eq_true, if_true, Sem.run_bind, p1, hx1, Result.andThen_ok]
    rw [show m + (M + 1) = m + M + 1 by omega, hst', hin]
    simp only [Result.andThen_ok]
    rw [show m + M + 1 = m + (M + 1) by omega, ih]
def zGg : MK → TypeDesc
 | .int k => .int k
 | .bool => .bool
 | _ => .string
def flat1 : MK → Bool
 | .st _ => false
 | _ => true
theorem mk_flat {kd : MK} {k : TypeId} (hf : flat1 kd = true) (h : MkTy P kd k) : P.underlying k = some (zGg kd) := by
 cases kd <;> simp [flat1] at hf <;> exact h
theorem keyV_key {kd : MK} {d : D} (hf : flat1 kd = true) (hk : keyOk kd d = true) : MapKept.IsKey (zGg kd) (keyV d) := by
 cases kd <;> simp [flat1] at hf <;> cases d <;> simp [keyOk] at hk <;> simp [MapKept.IsKey, zGg, keyV, hk]
theorem sameNow_key {kd : MK} {a b : D} (hf : flat1 kd = true) (ha : keyOk kd a = true) (hb : keyOk kd b = true) : Instr.sameNow (zGg kd) (keyV a) (keyV b) = some (keq a b) := by
 cases kd <;> simp [flat1] at hf <;> cases a <;> simp [keyOk] at ha <;> cases b <;> simp [keyOk] at hb
 ·subst ha; subst hb; simp [Instr.sameNow, zGg, keyV, keq]
 ·simp [Instr.sameNow, zGg, keyV, keq]
 ·simp [Instr.sameNow, zGg, keyV, keq, str_beq]
theorem findNow_eq {kd : MK} {k : D} (hf : flat1 kd = true) (hk : keyOk kd k = true) : ∀ (es : List (D × D × Nat)) (ents : List MapEntry) (i : Nat), (es.all fun e => keyOk kd e.1) = true →
 RelL w g (es.map (·.1)) (ents.map (·.key)) → RelL w g (es.map (·.2.1)) (ents.map (·.val)) →
 (findM k es i = none → Instr.findNow (zGg kd) (keyV k) ents i = some none) ∧
 ∀ j v, findM k es i = some (j, v) → ∃ x, Instr.findNow (zGg kd) (keyV k) ents i = some (some (j, x)) ∧ Rel w g v x ∧ i ≤ j ∧ (ents[j - i]?).map (·.key) = some (keyV k)
 | [], ents, i, _, h1, _ => by
   have : ents = [] := List.map_eq_nil_iff.1 h1.inv_nil
   subst this
   exact ⟨fun _ => rfl, fun j v h => by simp [findM] at h⟩
 | (k', v', n') :: es, ents, i, hall, h1, h2 => by
   rcases ents with _ | ⟨e, ents⟩
   ·have := h1.length
    simp at this
   simp only [List.map_cons] at h1 h2
   obtain ⟨y, ys, e1, r1, r2⟩ := h1.inv
   obtain ⟨z, zs, e2, r3, r4⟩ := h2.inv
   simp only [List.cons.injEq] at e1 e2
   obtain ⟨rfl, rfl⟩ := e1
   obtain ⟨rfl, rfl⟩ := e2
   simp only [List.all_cons, Bool.and_eq_true] at hall
   have hke := zGi hall.1 r1
   have hs := sameNow_key hf hk hall.1
   rw [← hke] at hs
   obtain ⟨ih1, ih2⟩ := findNow_eq hf hk es ents (i + 1) hall.2 r2 r4
   by_cases hq : keq k k' = true
   ·have hkk := keq_V hk hall.1 hq
    simp only [findM, hq, if_true]
    refine ⟨by simp, fun j v h => ?_⟩
    simp only [Option.some.injEq, Prod.mk.injEq] at h
    obtain ⟨rfl, rfl⟩ := h
    rw [hq] at hs
    refine ⟨e.val, by simp [Instr.findNow, hs], r3, Nat.le_refl _, ?_⟩
    simp [hke, hkk]
   ·simp only [Bool.not_eq_true] at hq
    rw [hq] at hs
    simp only [findM, hq, Bool.false_eq_true, if_false]
    refine ⟨fun h => by simp [Instr.findNow, hs, ih1 h], fun j v h => ?_⟩
    obtain ⟨x, q1, q2, q3, q4⟩ := ih2 j v h
    refine ⟨x, by simp [Instr.findNow, hs, q1], q2, by omega, ?_⟩
    rw [show j - i = (j - (i + 1)) + 1 by omega]
    simpa using q4
theorem snd_newM {t e : TypeId} {kd : MK} (hop : o.op = .makeMap t none) 
 (hi : Inv w0 g0 hp w g) {ds : List D} (h : opWp .newM ds hp K) : Done P ρ o w0 g0 w g K := by
 have h : K (.mp hp.H.length) { hp with H := hp.H ++ [.map [] 0] } := by simpa only [opWp] using h
 obtain ⟨q1, q2⟩ := hi.newBlk (.map [] 0) (.map #[] 0) fun w' g' he => ⟨[], rfl, RelL.nil, RelL.nil, rfl⟩
 refine ⟨_, _, _, .map (some w.heap.size), _, h, q1, q2, ?_, .inl ?_⟩
 ·simp only [Rel]
  refine ⟨w.heap.size, ?_, rfl⟩
  rw [hi.heap.len, List.getElem?_append_right (Nat.le_refl _)]; simp
 ·simp [execOp, hop, Instr.makeMap]
theorem find_struct {kt : TypeId} {fs : Array Field} {ks : List EK} (hu : P.underlying kt = some (.struct fs)) (hst : P.stoodInHeld kt = false) (hks : zCb P 40 0 fs.toList = some ks) {k : List D} (hk : sokL ks k = true) (hr : RelL w g k (k.map keyV1)) :
 ∀ (es : List (D × D × Nat)) (ents : List MapEntry) (i : Nat), (es.all fun e => keyOk (.st ks) e.1) = true →
 RelL w g (es.map (·.1)) (ents.map (·.key)) → RelL w g (es.map (·.2.1)) (ents.map (·.val)) →
 ∃ r, (∀ w1 : World, (Instr.findAsking kt (.agg (k.map keyV1).toArray) ents i).run P w1 = .ok r w1) ∧ (findM (.agg k) es i = none → r = none) ∧
  ∀ j v, findM (.agg k) es i = some (j, v) → ∃ x, r = some (j, x) ∧ Rel w g v x ∧ i ≤ j ∧ (ents[j - i]?).map (·.key) = some (keyV (.agg k))
 | [], ents, i, _, h1, _ => by
   have : ents = [] := List.map_eq_nil_iff.1 h1.inv_nil
   subst this
   exact ⟨none, fun w1 => by simp [Instr.findAsking], fun _ => rfl, fun j v h => by simp [findM] at h⟩
 | (k', v', n') :: es, ents, i, hall, h1, h2 => by
   rcases ents with _ | ⟨e, ents⟩
   ·have := h1.length
    simp at this
   simp only [List.map_cons] at h1 h2
   obtain ⟨y, ys, e1, r1, r2⟩ := h1.inv
   obtain ⟨z, zs, e2, r3, r4⟩ := h2.inv
   simp only [List.cons.injEq] at e1 e2
   obtain ⟨rfl, rfl⟩ := e1
   obtain ⟨rfl, rfl⟩ := e2
   simp only [List.all_cons, Bool.and_eq_true] at hall
   have hke := zGi hall.1 r1
   obtain ⟨r, ih0, ih1, ih2⟩ := find_struct hu hst hks hk hr es ents (i + 1) hall.2 r2 r4
   have hk' := hall.1
   cases k' <;> simp [keyOk] at hk'
   rename_i cs
   simp only [Rel] at r1
   obtain ⟨xs, hx, rx, _⟩ := r1
   have hfo : P.fieldsOf kt = fs := by simp [Program.fieldsOf, hu]
   have heq : ∀ w1 : World, (Op.equal kt (.agg (k.map keyV1).toArray) e.key).run P w1 = .ok (keqL k cs) w1 := fun w1 => by
    have hrun := zCu (P := P) (m := 9958) (w := w) (g := g) (xs := k.map keyV1) (ys := xs) 40 40 (Nat.le_refl _) fs.toList 0 ks k cs _ hks (sokL_eq hk hk') (by simpa using hr) (by simpa using rx) w1
    have hst' := run_equalIn_struct (P := P) w1 9999 kt (k.map keyV1).toArray xs.toArray (by rw [hfo]; exact hu) hst
    rw [hfo, hrun] at hst'
    simp only [Op.equal, Op.maxDepth]
    rw [hx]
    exact hst'
   cases hq : keqL k cs
   ·refine ⟨r, fun w1 => ?_, fun h => ?_, fun j v h => ?_⟩
    ·simp only [Instr.findAsking, Sem.run_bind, heq, hq, Result.andThen, Bool.false_eq_true, if_false]
     exact ih0 w1
    ·simp [findM, keq, hq] at h
     exact ih1 h
    ·simp [findM, keq, hq] at h
     obtain ⟨x, q1, q2, q3, q4⟩ := ih2 j v h
     refine ⟨x, q1, q2, by omega, ?_⟩
     rw [show j - i = (j - (i + 1)) + 1 by omega]
     simpa using q4
   ·refine ⟨some (i, e.val), fun w1 => ?_, fun h => ?_, fun j v h => ?_⟩
    ·simp only [Instr.findAsking, Sem.run_bind, heq, hq, Result.andThen, if_true, Sem.run_pure]
    ·simp [findM, keq, hq] at h
    ·simp [findM, keq, hq] at h
     obtain ⟨rfl, rfl⟩ := h
     refine ⟨e.val, rfl, r3, Nat.le_refl _, ?_⟩
     have : k = cs := sokL_V hk hk' hq
     rw [this]
     simpa using hke
theorem key_check {kd : MK} {kt : TypeId} {d : D} (ht : MkTy P kd kt) (hk : keyOk kd d = true) (hr : Rel w g d (keyV d)) (b : Bool) (w1 : World) : (Instr.checkKey b 10000 kt (keyV d)).run P w1 = .ok () w1 := by
 cases hf : flat1 kd
 ·cases kd <;> simp [flat1] at hf
  rename_i ks
  obtain ⟨fs, hu, hst, hks⟩ := ht
  cases d <;> simp [keyOk] at hk
  rename_i cs
  simp only [keyV, Rel] at hr ⊢
  obtain ⟨xs, hx, rx, _⟩ := hr
  have hxs : cs.map keyV1 = xs := by
   have := congrArg (fun v => match v with | Value.agg a => a.toList | _ => []) hx
   simpa using this
  rw [chk_struct (n := 9999) hu, hxs]
  exact zFg (m := 9959) (w := w) (g := g) 40 40 (Nat.le_refl _) fs.toList 0 ks cs hks hk (by simpa using rx) w1
 ·exact MapKept.run_checkKey (mk_flat hf ht) (keyV_key hf hk) b 9999
theorem key_find {kd : MK} {kt : TypeId} {k : D} (ht : MkTy P kd kt) (hk : keyOk kd k = true) (hr : Rel w g k (keyV k)) {es : List (D × D × Nat)} {ents : List MapEntry} (hall : (es.all fun e => keyOk kd e.1) = true)
 (h1 : RelL w g (es.map (·.1)) (ents.map (·.key))) (h2 : RelL w g (es.map (·.2.1)) (ents.map (·.val))) :
 ∃ r, (∀ w1 : World, (Instr.findKey kt (keyV k) ents).run P w1 = .ok r w1) ∧ (findM k es 0 = none → r = none) ∧
  ∀ j v, findM k es 0 = some (j, v) → ∃ x, r = some (j, x) ∧ Rel w g v x ∧ (ents[j]?).map (·.key) = some (keyV k) := by
 cases hf : flat1 kd
 ·cases kd <;> simp [flat1] at hf
  rename_i ks
  obtain ⟨fs, hu, hst, hks⟩ := ht
  cases k <;> simp [keyOk] at hk
  rename_i cs
  simp only [keyV, Rel] at hr
  obtain ⟨xs, hx, rx, _⟩ := hr
  have hxs : cs.map keyV1 = xs := by
   have := congrArg (fun v => match v with | Value.agg a => a.toList | _ => []) hx
   simpa using this
  obtain ⟨r, g0, g1, g2⟩ := find_struct hu hst hks hk (by rw [hxs]; exact rx) es ents 0 hall h1 h2
  refine ⟨r, fun w1 => ?_, g1, fun j v h => ?_⟩
  ·cases ents with
   | nil =>
     have := g0 w1
     simp only [Instr.findAsking, Sem.run_pure] at this
     simp [Instr.findKey, run_underlying hu, Result.andThen, Instr.findNow, ← this]
   | cons e ents =>
     simp only [Instr.findKey, Sem.run_bind, run_underlying hu, Result.andThen, Instr.findNow, Instr.sameNow]
     exact g0 w1
  ·obtain ⟨x, q1, q2, _, q4⟩ := g2 j v h
   exact ⟨x, q1, q2, by simpa using q4⟩
 ·obtain ⟨f1, f2⟩ := findNow_eq hf hk es ents 0 hall h1 h2
  cases hm : findM k es 0 with
  | none => exact ⟨none, fun w1 => MapKept.run_findKey (mk_flat hf ht) (f1 hm), fun _ => rfl, fun j v h => by cases h⟩
  | some p =>
    obtain ⟨j, v⟩ := p
    obtain ⟨x, q1, q2, _, q4⟩ := f2 j v hm
    exact ⟨some (j, x), fun w1 => MapKept.run_findKey (mk_flat hf ht) q1, fun h => (by cases h), fun j' v' h => (by cases h; exact ⟨x, rfl, q2, by simpa using q4⟩)⟩
theorem zBo {α β : Type} {f : α → α} {g : α → β} {c : β} (h : ∀ x, g (f x) = c) : ∀ (l : List α) (i : Nat), (l.modify i f).map g = (l.map g).set i c
 | [], i => by simp
 | x :: l, 0 => by simp [h]
 | x :: l, i + 1 => by simp [zBo h l i]
theorem zC5 {α β : Type} {f : α → α} {g : α → β} (h : ∀ x, g (f x) = g x) : ∀ (l : List α) (i : Nat), (l.modify i f).map g = l.map g
 | [], i => by simp
 | x :: l, 0 => by simp [h]
 | x :: l, i + 1 => by simp [zC5 h l i]
theorem zBz {α β : Type} (g : α → β) : ∀ (l : List α) (i : Nat), (l.eraseIdx i).map g = (l.map g).eraseIdx i
 | [], i => by simp
 | x :: l, 0 => by simp
 | x :: l, i + 1 => by simp [zBz g l i]
theorem RelL.eraseIdx : ∀ {ds : List D} {xs : List Value} (i : Nat), RelL w g ds xs → RelL w g (ds.eraseIdx i) (xs.eraseIdx i)
 | [], xs, i, h => by rw [h.inv_nil]; exact RelL.nil
 | d :: ds, xs, i, h => by
   obtain ⟨y, ys, rfl, h1, h2⟩ := h.inv
   cases i with
   | zero => exact h2
   | succ i => exact RelL.cons h1 (RelL.eraseIdx i h2)
theorem zGh (hi : Inv w0 g0 hp w g) {b n clock clock' : Nat} {es es' : List (D × D × Nat)} {ents ents' : List MapEntry} (h1 : hp.H[b]? = some (.map es clock)) (q1 : g.r[b]? = some n) (x1 : w.heap[n]? = some (.map ents.toArray clock))
 (y1 : RelL w g (es'.map (·.1)) (ents'.map (·.key))) (y2 : RelL w g (es'.map (·.2.1)) (ents'.map (·.val))) (y3 : es'.map (·.2.2) = ents'.map (·.born)) :
 Inv w0 g0 { hp with H := hp.H.set b (.map es' clock') } { w with heap := w.heap.setIfInBounds n (.map ents'.toArray clock') } g ∧ Evo w g { w with heap := w.heap.setIfInBounds n (.map ents'.toArray clock') } g :=
 hi.write (w' := { w with heap := w.heap.setIfInBounds n (.map ents'.toArray clock') }) b n q1 ⟨_, h1, by simp⟩ (.map es' clock')
  (fun w1 g1 he => ⟨ents', by simp [Array.getElem?_setIfInBounds, zDy x1], RelL.evo _ he y1, RelL.evo _ he y2, y3⟩)
  (fun m hm => by simp [Array.getElem?_setIfInBounds, Ne.symm hm]) (by simp) rfl rfl rfl
theorem snd_mpu {t e : TypeId} {kd : MK} {m k v : Operand} (hop : o.op = .mapUpdate t m k v ∨ o.op = .insert t m k v) (ht : mkOf P t = some (kd, e))
 (hi : Inv w0 g0 hp w g) {ds : List D} (hr : RelL w g ds [ρ m, ρ k, ρ v]) (h : opWp (.mpu kd) ds hp K) : Done P ρ o w0 g0 w g K := by
 obtain ⟨a, b, c, rfl, ha, hb, hc⟩ := list3 (f := ρ) hr
 cases a <;> try (simp only [opWp] at h; done)
 case mp bk =>
  simp only [opWp] at h
  obtain ⟨es, clock, h1, hk, hall, h⟩ := h
  simp only [Rel] at ha
  obtain ⟨n, q1, q2⟩ := ha
  obtain ⟨ents, x1, x2, x3, x4⟩ := hi.heap.blk bk _ n h1 q1
  have hkv := zGi hk hb
  obtain ⟨kt, u1, u2⟩ := mkOf_spec ht
  obtain ⟨fr, f0, f1, f2⟩ := key_find u2 hk (hkv ▸ hb) hall x2 x3
  have hck := key_check u2 hk (hkv ▸ hb) false w
  have hgo := MapKept.run_getObj_map (P := P) x1
  have hexec : ∀ w', (Instr.mapUpdate t (ρ m) (ρ k) (ρ v)).run P w = .ok () w' → (execOp ρ o).run P w = .ok .skip w' := by
   intro w' hw
   rcases hop with hop | hop <;> simp [execOp, hop, Sem.run_bind, hw, Result.andThen]
  unfold putM at h
  cases hf : findM b es 0 with
  | none =>
    rw [hf] at h; simp only at h
    have hfk := f0 w
    rw [f1 hf] at hfk
    obtain ⟨w1, w2⟩ := zGh hi (es' := es ++ [(b, c, clock)]) (ents' := ents ++ [⟨keyV b, ρ v, clock⟩]) (clock' := clock + 1) h1 q1 x1
     (by simpa [hkv] using x2.append (RelL.one (by rw [← hkv]; exact hb))) (by simpa using x3.append (RelL.one hc)) (by simp [x4])
    refine ⟨_, _, g, Go.undef, _, h, w1, w2, by simp [Rel], .inr ⟨hexec _ ?_, rfl⟩⟩
    rw [q2, hkv]
    simp only [Instr.mapUpdate, Sem.run_bind, run_underlying u1, Result.andThen, hgo, hck, hfk]
    rw [MapKept.run_setObj_map _ x1]
    simp
  | some p =>
    obtain ⟨j, v'⟩ := p
    rw [hf] at h; simp only at h
    obtain ⟨x, g1, g2, g4⟩ := f2 j v' hf
    have hfk := f0 w
    rw [g1] at hfk
    have k1 : (es.modify j fun e => (b, c, e.2.2)).map (·.1) = (es.map (·.1)).set j b := zBo (f := fun e : D × D × Nat => (b, c, e.2.2)) (g := fun x => x.1) (fun _ => rfl) es j
    have k2 : (es.modify j fun e => (b, c, e.2.2)).map (·.2.1) = (es.map (·.2.1)).set j c := zBo (f := fun e : D × D × Nat => (b, c, e.2.2)) (g := fun x => x.2.1) (fun _ => rfl) es j
    have k3 : (es.modify j fun e => (b, c, e.2.2)).map (·.2.2) = es.map (·.2.2) := zC5 (f := fun e : D × D × Nat => (b, c, e.2.2)) (g := fun x => x.2.2) (fun _ => rfl) es j
    have k4 : (ents.modify j fun e => { e with key := keyV b, val := ρ v }).map (·.key) = (ents.map (·.key)).set j (keyV b) := zBo (f := fun e : MapEntry => { e with key := keyV b, val := ρ v }) (g := fun x => x.key) (fun _ => rfl) ents j
    have k5 : (ents.modify j fun e => { e with key := keyV b, val := ρ v }).map (·.val) = (ents.map (·.val)).set j (ρ v) := zBo (f := fun e : MapEntry => { e with key := keyV b, val := ρ v }) (g := fun x => x.val) (fun _ => rfl) ents j
    have k6 : (ents.modify j fun e => { e with key := keyV b, val := ρ v }).map (·.born) = ents.map (·.born) := zC5 (f := fun e : MapEntry => { e with key := keyV b, val := ρ v }) (g := fun x => x.born) (fun _ => rfl) ents j
    obtain ⟨w1, w2⟩ := zGh hi (es' := es.modify j fun e => (b, c, e.2.2)) (ents' := ents.modify j fun e => { e with key := keyV b, val := ρ v }) (clock' := clock) h1 q1 x1
     (by rw [k1, k4]; exact x2.set j (by rw [← hkv]; exact hb)) (by rw [k2, k5]; exact x3.set j hc) (by rw [k3, k6]; exact x4)
    refine ⟨_, _, g, Go.undef, _, h, w1, w2, by simp [Rel], .inr ⟨hexec _ ?_, rfl⟩⟩
    have hold : (((ents.toArray[j]?).map (·.key)).getD (keyV b)) = keyV b := by simp [g4]
    rw [q2, hkv]
    simp only [Instr.mapUpdate, Sem.run_bind, run_underlying u1, Result.andThen, hgo, hck, hfk, hold, Instr.keyThatStays, sameBits_key hk, if_true, Sem.run_pure]
    rw [MapKept.run_setObj_map _ x1]
    simp
theorem snd_mdl {c : Call} {t e : TypeId} {kd : MK} {m k : Operand} (hop : o.op = .call c) (hc : c.callee = .builtin .delete) (hta : c.argTypes[0]? = some t) (hx : c.args.toList = [m, k]) (ht : mkOf P t = some (kd, e))
 (hi : Inv w0 g0 hp w g) {ds : List D} (hr : RelL w g ds [ρ m, ρ k]) (h : opWp (.mdl kd) ds hp K) : Done P ρ o w0 g0 w g K := by
 obtain ⟨a, b, rfl, ha, hb⟩ := list2 (f := ρ) hr
 obtain ⟨consts, hrun⟩ := zBx (ρ := ρ) (o := o) (P := P) (w := w) hop hc
 simp only [args2 hx, builtin, List.map_toArray, List.map_cons, List.map_nil] at hrun
 cases a <;> try (simp only [opWp] at h; done)
 case mp bk =>
  simp only [opWp] at h
  obtain ⟨es, clock, h1, hk, hall, h⟩ := h
  simp only [Rel] at ha
  obtain ⟨n, q1, q2⟩ := ha
  obtain ⟨ents, x1, x2, x3, x4⟩ := hi.heap.blk bk _ n h1 q1
  have hkv := zGi hk hb
  obtain ⟨kt, u1, u2⟩ := mkOf_spec ht
  obtain ⟨fr, f0, f1, f2⟩ := key_find u2 hk (hkv ▸ hb) hall x2 x3
  have hck := key_check u2 hk (hkv ▸ hb) ents.toArray.isEmpty w
  have hgo := MapKept.run_getObj_map (P := P) x1
  unfold delM at h
  cases hf : findM b es 0 with
  | none =>
    rw [hf] at h; simp only at h
    have hfk := f0 w
    rw [f1 hf] at hfk
    obtain ⟨w1, w2⟩ := zGh hi (es' := es) (ents' := ents) (clock' := clock) h1 q1 x1 x2 x3 x4
    refine ⟨_, _, g, .tuple #[], _, h, w1, w2, by simp [Rel, RelL], .inl ?_⟩
    rw [hrun]
    simp only [Builtin.delete_, hta, q2, hkv, List.getElem?_toArray, List.getElem?_cons_zero, List.getElem?_cons_succ, Sem.run_bind, run_underlying u1, Result.andThen, hgo, hck, hfk]
    rw [MapKept.run_setObj_map _ x1]
    simp
  | some p =>
    obtain ⟨j, v'⟩ := p
    rw [hf] at h; simp only at h
    obtain ⟨x, g1, g2, g4⟩ := f2 j v' hf
    have hfk := f0 w
    rw [g1] at hfk
    obtain ⟨w1, w2⟩ := zGh hi (es' := es.eraseIdx j) (ents' := ents.eraseIdx j) (clock' := clock) h1 q1 x1
     (by rw [zBz, zBz]; exact x2.eraseIdx j) (by rw [zBz, zBz]; exact x3.eraseIdx j) (by rw [zBz, zBz, x4])
    refine ⟨_, _, g, .tuple #[], _, h, w1, w2, by simp [Rel, RelL], .inl ?_⟩
    rw [hrun]
    simp only [Builtin.delete_, hta, q2, hkv, List.getElem?_toArray, List.getElem?_cons_zero, List.getElem?_cons_succ, Sem.run_bind, run_underlying u1, Result.andThen, hgo, hck, hfk]
    rw [MapKept.run_setObj_map _ x1]
    simp
theorem snd_lenM {c : Call} {x : Operand} {t k e : TypeId} (hop : o.op = .call c) (hc : c.callee = .builtin .len) (ht : c.argTypes[0]? = some t) (hx : c.args.toList = [x]) (hu : P.underlying t = some (.map k e))
 (hi : Inv w0 g0 hp w g) {ds : List D} (hr : RelL w g ds [ρ x]) (h : opWp .lenM ds hp K) : Done P ρ o w0 g0 w g K := by
 obtain ⟨a, rfl, ha⟩ := list1 (f := ρ) hr
 obtain ⟨cs, hrun⟩ := zBx (ρ := ρ) (o := o) (P := P) (w := w) hop hc
 simp only [args1 hx, builtin, Builtin.len_, ht] at hrun
 cases a <;> try (simp only [opWp, zEu] at h; done)
 case mp bk =>
  simp only [opWp, zEu] at h
  obtain ⟨es, clock, h1, h⟩ := h
  simp only [Rel] at ha
  obtain ⟨n, q1, q2⟩ := ha
  obtain ⟨ents, x1, x2, x3, x4⟩ := hi.heap.blk bk _ n h1 q1
  have hl : es.length = ents.length := by
   have := congrArg List.length x4
   simpa using this
  refine zAz hi h ?_
  rw [hrun]
  simp [run_underlying hu, q2, MapKept.run_getObj_map x1, Sem.run_bind, Result.andThen, goInt, hl]
 case lit v =>
  cases v <;> try (simp only [opWp, zEu] at h; done)
  rename_i m
  cases m <;> try (simp only [opWp, zEu] at h; done)
  simp only [opWp, zEu] at h
  simp only [Rel] at ha
  refine zAz hi h ?_
  rw [hrun]
  simp [run_underlying hu, ha.1, Sem.run_bind, Result.andThen, goInt]
theorem snd_rngM {t k e : TypeId} {x : Operand} (hop : o.op = .range t x) (hu : P.underlying t = some (.map k e))
 (hi : Inv w0 g0 hp w g) {ds : List D} (hr : RelL w g ds [ρ x]) (h : opWp .rngM ds hp K) : Done P ρ o w0 g0 w g K := by
 obtain ⟨a, rfl, ha⟩ := list1 (f := ρ) hr
 cases a <;> try (simp only [opWp, zEp] at h; done)
 case mp bk =>
  simp only [opWp, zEp] at h
  obtain ⟨es, clock, h1, h⟩ := h
  simp only [Rel] at ha
  obtain ⟨n, q1, q2⟩ := ha
  obtain ⟨ents, x1, x2, x3, x4⟩ := hi.heap.blk bk _ n h1 q1
  obtain ⟨w1, w2⟩ := hi.newBlk (.miter bk clock [] clock) (.mapIter (some n) clock #[] clock) fun w' g' he => ⟨n, he.ref bk n q1, rfl⟩
  refine ⟨_, _, _, .pointer (some ⟨w.heap.size, 0, none⟩), _, h, w1, w2, ?_, .inl ?_⟩
  ·simp only [Rel]
   refine ⟨w.heap.size, ?_, rfl⟩
   rw [hi.heap.len, List.getElem?_append_right (Nat.le_refl _)]; simp
  ·simp [execOp, hop, q2, Instr.range, run_underlying hu, MapKept.run_getObj_map x1, Sem.run_bind, Result.andThen]
 case lit v =>
  cases v <;> try (simp only [opWp, zEp] at h; done)
  rename_i m
  cases m <;> try (simp only [opWp, zEp] at h; done)
  simp only [opWp, zEp] at h
  simp only [Rel] at ha
  obtain ⟨w1, w2⟩ := hi.newBlk nilIt (.mapIter none 0 #[] 0) fun w' g' he => rfl
  refine ⟨_, _, _, .pointer (some ⟨w.heap.size, 0, none⟩), _, h, w1, w2, ?_, .inl ?_⟩
  ·simp only [Rel]
   refine ⟨w.heap.size, ?_, rfl⟩
   rw [hi.heap.len, List.getElem?_append_right (Nat.le_refl _)]; simp
  ·simp [execOp, hop, ha.1, Instr.range, run_underlying hu, Sem.run_bind, Result.andThen]
theorem zero1_rel {t : TypeId} {d : D} (h : zero1 P t = some d) : ∃ zv, (∀ w : World, (zeroValue t).run P w = .ok zv w) ∧ Rel w g d zv := by
 unfold zero1 at h
 split at h
 case h_2 => cases h
 rename_i i hi
 split at h
 ·rename_i cs hz
  simp only [Option.map_eq_some_iff] at h
  obtain ⟨ds, hd, rfl⟩ := h
  obtain ⟨h1, h2⟩ := zDa (w := w) (g := g) hd
  refine ⟨.agg cs, fun w => by simp [zeroValue, typeInfo, hi, hz], ?_⟩
  simp only [Rel]
  exact ⟨cs.toList, by simp, h1.any, h2⟩
 ·rename_i v hz hv
  obtain ⟨h1, h2⟩ := toD_rel (w := w) (g := g) h
  exact ⟨v, fun w => by simp [zeroValue, typeInfo, hi, hv], by
   have := RelL.one h1
   obtain ⟨y, ys, e, q, _⟩ := (RelL.any this).inv
   simp only [List.cons.injEq] at e
   rw [e.1]; exact q⟩
 ·cases h
theorem snd_lkp {t e : TypeId} {kd : MK} {ok : Bool} {zero : D} {m k : Operand} (hop : o.op = .lookup t m k ok) (ht : mkOf P t = some (kd, e)) (hz : zero1 P e = some zero)
 (hi : Inv w0 g0 hp w g) {ds : List D} (hr : RelL w g ds [ρ m, ρ k]) (h : opWp (.lkp kd ok zero) ds hp K) : Done P ρ o w0 g0 w g K := by
 obtain ⟨a, b, rfl, ha, hb⟩ := list2 (f := ρ) hr
 cases a <;> try (simp only [opWp] at h; done)
 case mp bk =>
  simp only [opWp] at h
  obtain ⟨es, clock, h1, hk, hall, hs, hn⟩ := h
  simp only [Rel] at ha
  obtain ⟨n, q1, q2⟩ := ha
  obtain ⟨ents, x1, x2, x3, x4⟩ := hi.heap.blk bk _ n h1 q1
  have hkv := zGi hk hb
  obtain ⟨kt, u1, u2⟩ := mkOf_spec ht
  obtain ⟨fr, f0, f1, f2⟩ := key_find u2 hk (hkv ▸ hb) hall x2 x3
  have hck := key_check u2 hk (hkv ▸ hb) ents.toArray.isEmpty w
  have hgo := MapKept.run_getObj_map (P := P) x1
  cases hf : findM b es 0 with
  | none =>
    have hfk := f0 w
    rw [f1 hf] at hfk
    have hK := hn hf
    obtain ⟨zv, z1, z2⟩ := zero1_rel (w := w) (g := g) hz
    cases ok
    ·refine zAg hi (by simpa using hK) (v := zv) z2 ?_
     simp only [execOp, hop, Instr.lookup, q2, hkv, Sem.run_bind, run_underlying u1, Result.andThen, hgo, hck, hfk, z1, Sem.run_pure]
     rfl
    ·refine zAg hi (by simpa using hK) (v := .tuple #[zv, .bool false]) (by simp only [Rel]; exact ⟨_, rfl, RelL.cons z2 (RelL.one (by simp [Rel]))⟩) ?_
     simp only [execOp, hop, Instr.lookup, q2, hkv, Sem.run_bind, run_underlying u1, Result.andThen, hgo, hck, hfk, z1, Sem.run_pure]
     rfl
  | some p =>
    obtain ⟨j, v'⟩ := p
    obtain ⟨x, g1, g2, g4⟩ := f2 j v' hf
    have hfk := f0 w
    rw [g1] at hfk
    have hK := hs j v' hf
    cases ok
    ·refine zAg hi (by simpa using hK) (v := x) g2 ?_
     simp only [execOp, hop, Instr.lookup, q2, hkv, Sem.run_bind, run_underlying u1, Result.andThen, hgo, hck, hfk, Sem.run_pure]
     rfl
    ·refine zAg hi (by simpa using hK) (v := .tuple #[x, .bool true]) (by simp only [Rel]; exact ⟨_, rfl, RelL.cons g2 (RelL.one (by simp [Rel]))⟩) ?_
     simp only [execOp, hop, Instr.lookup, q2, hkv, Sem.run_bind, run_underlying u1, Result.andThen, hgo, hck, hfk, Sem.run_pure]
     rfl
theorem ent_at : ∀ {es : List (D × D × Nat)} {ents : List MapEntry}, RelL w g (es.map (·.1)) (ents.map (·.key)) → RelL w g (es.map (·.2.1)) (ents.map (·.val)) → es.map (·.2.2) = ents.map (·.born) →
 ∀ x ∈ ents, ∃ e ∈ es, Rel w g e.1 x.key ∧ Rel w g e.2.1 x.val ∧ e.2.2 = x.born
 | [], [], _, _, _, x, hx => by simp at hx
 | [], _ :: _, h1, _, _, x, hx => by have := h1.length; simp at this
 | _ :: _, [], _, _, _, x, hx => by simp at hx
 | e :: es, y :: ents, h1, h2, h3, x, hx => by
   simp only [List.map_cons] at h1 h2 h3
   obtain ⟨a, b, e1, r1, r2⟩ := h1.inv
   obtain ⟨c, d, e2, r3, r4⟩ := h2.inv
   simp only [List.cons.injEq] at e1 e2 h3
   obtain ⟨rfl, rfl⟩ := e1
   obtain ⟨rfl, rfl⟩ := e2
   rcases List.mem_cons.1 hx with rfl | hx
   ·exact ⟨e, List.mem_cons_self, r1, r3, h3.1⟩
   ·obtain ⟨e', q1, q2⟩ := ent_at r2 r4 h3.2 x hx
    exact ⟨e', List.mem_cons_of_mem _ q1, q2⟩
theorem ent_at' : ∀ {es : List (D × D × Nat)} {ents : List MapEntry}, RelL w g (es.map (·.1)) (ents.map (·.key)) → RelL w g (es.map (·.2.1)) (ents.map (·.val)) → es.map (·.2.2) = ents.map (·.born) →
 ∀ e ∈ es, ∃ x ∈ ents, Rel w g e.1 x.key ∧ Rel w g e.2.1 x.val ∧ e.2.2 = x.born
 | [], _, _, _, _, e, he => by simp at he
 | _ :: _, [], h1, _, _, e, he => by have := h1.length; simp at this
 | e :: es, y :: ents, h1, h2, h3, x, hx => by
   simp only [List.map_cons] at h1 h2 h3
   obtain ⟨a, b, e1, r1, r2⟩ := h1.inv
   obtain ⟨c, d, e2, r3, r4⟩ := h2.inv
   simp only [List.cons.injEq] at e1 e2 h3
   obtain ⟨rfl, rfl⟩ := e1
   obtain ⟨rfl, rfl⟩ := e2
   rcases List.mem_cons.1 hx with rfl | hx
   ·exact ⟨y, List.mem_cons_self, r1, r3, h3.1⟩
   ·obtain ⟨e', q1, q2⟩ := ent_at' r2 r4 h3.2 x hx
    exact ⟨e', List.mem_cons_of_mem _ q1, q2⟩
theorem snd_nxtM {it : Operand} (hop : o.op = .next it false)
 (hi : Inv w0 g0 hp w g) {ds : List D} (hr : RelL w g ds [ρ it]) (h : opWp .nxtM ds hp K) : Done P ρ o w0 g0 w g K := by
 obtain ⟨a, rfl, ha⟩ := list1 (f := ρ) hr
 cases a <;> try (simp only [opWp] at h; done)
 case ptr b off =>
  cases off <;> try (simp only [opWp] at h; done)
  simp only [opWp] at h
  simp only [Rel] at ha
  obtain ⟨n, q1, q2⟩ := ha
  rcases h with ⟨h1, h⟩ | ⟨m, since, seen, st, es, clock, h1, h2, h3, h4, h5, h6⟩
  ·have p2 := hi.heap.blk b _ n h1 q1
   simp only [BlkRel] at p2
   refine zAg hi h (v := .tuple #[.bool false]) (by simp only [Rel]; exact ⟨_, rfl, RelL.one (by simp [Rel])⟩) ?_
   have hgo : (getObj n).run P w = .ok (.mapIter none 0 #[] 0) w := by simp [getObj, Sem.run, p2]
   simp [execOp, hop, q2, Instr.next, hgo, Sem.run_bind, Result.andThen]
  obtain ⟨nm, p1, p2⟩ := hi.heap.blk b _ n h1 q1
  obtain ⟨ents, x1, x2, x3, x4⟩ := hi.heap.blk m _ nm h2 p1
  have hold : ∀ x ∈ ents.toArray.toList, x.born < since := by
   intro x hx
   obtain ⟨e, e1, e2, e3, e4⟩ := ent_at x2 x3 x4 x (by simpa using hx)
   rw [← e4]; exact h3 e e1
  have hrun := run_next_at (P := P) w o.type n nm since st seen.toArray ents.toArray clock p2 x1 hold h4
  rcases hrun with ⟨e0, hrun⟩ | ⟨x, hx, w1, hw, hrun⟩
  ·have hK := h6 (by
    intro e he
    obtain ⟨x, y1, y2, y3, y4⟩ := ent_at' x2 x3 x4 e he
    have hnil : leftOf ents.toArray seen.toArray = #[] := Array.eq_empty_of_size_eq_zero e0
    unfold leftOf at hnil
    rw [Array.filter_eq_empty_iff] at hnil
    have := hnil (a := x) (by simpa using y1)
    rw [y4]
    simpa using this)
   refine zAg hi hK (v := .tuple #[.bool false]) (by simp only [Rel]; exact ⟨_, rfl, RelL.one (by simp [Rel])⟩) ?_
   simp only [execOp, hop, q2, Sem.run_bind, hrun, Result.andThen_ok, Sem.run_pure]
  ·unfold leftOf at hx
   simp only [Array.toList_filter, List.mem_filter] at hx
   obtain ⟨e, e1, e2, e3, e4⟩ := ent_at x2 x3 x4 x (by simpa using hx.1)
   have hns : e.2.2 ∉ seen := by
    have := hx.2
    rw [e4]
    simpa using this
   have hK := h5 e e1 hns
   have hw1 : w1.heap = w.heap ∧ w1.os = w.os ∧ w1.tape = w.tape ∧ w1.output = w.output := by rcases hw with rfl | rfl <;> exact ⟨rfl, rfl, rfl, rfl⟩
   obtain ⟨z1, z2, z3, z4⟩ := hw1
   obtain ⟨w2, w3⟩ := hi.write (w' := ChangeMaps.setBlock w1 n (.mapIter (some nm) since (seen.toArray.push x.born) clock)) b n q1 ⟨_, h1, by simp⟩ (.miter m since (seen ++ [e.2.2]) clock)
    (fun w4 g4 he => ⟨nm, he.ref m nm p1, by simp [ChangeMaps.setBlock, z1, Array.getElem?_setIfInBounds, zDy p2, e4]⟩)
    (fun m' hm => by simp [ChangeMaps.setBlock, z1, Array.getElem?_setIfInBounds, Ne.symm hm]) (by simp [ChangeMaps.setBlock, z1]) (by simp [ChangeMaps.setBlock, z2]) (by simp [ChangeMaps.setBlock, z3]) (by simp [ChangeMaps.setBlock, z4])
   refine ⟨_, _, g, .tuple #[.bool true, x.key, x.val], _, hK, w2, w3, ?_, .inl ?_⟩
   ·simp only [Rel]
    exact ⟨_, rfl, RelL.cons (by simp [Rel]) (RelL.evo [e.1, e.2.1] w3 (RelL.cons e2 (RelL.one e3)))⟩
   ·simp only [execOp, hop, q2, Sem.run_bind, hrun, Result.andThen_ok, Sem.run_pure]
theorem snd_ent {it : Operand} (hop : o.op = .entry it)
 (hi : Inv w0 g0 hp w g) {ds : List D} (hr : RelL w g ds [ρ it]) (h : opWp .ent ds hp K) : Done P ρ o w0 g0 w g K := by
 obtain ⟨a, rfl, ha⟩ := list1 (f := ρ) hr
 cases a <;> try (simp only [opWp] at h; done)
 case ptr b off =>
  cases off <;> try (simp only [opWp] at h; done)
  simp only [opWp] at h
  obtain ⟨m, since, seen, es, clock, nb, k, v, h1, h2, h3, h4, h5⟩ := h
  simp only [Rel] at ha
  obtain ⟨n, q1, q2⟩ := ha
  obtain ⟨nm, p1, p2⟩ := hi.heap.blk b _ n h1 q1
  obtain ⟨ents, x1, x2, x3, x4⟩ := hi.heap.blk m _ nm h2 p1
  obtain ⟨x, y1, y2, y3, y4⟩ := ent_at' x2 x3 x4 (k, v, nb) h4
  simp only at y2 y3 y4
  subst y4
  have p2' : w.heap[n]? = some (.mapIter (some nm) since (seen.toArray.push x.born) clock) := by rw [p2]; simp
  have hrun := run_entry_at (P := P) w n nm since seen.toArray ents.toArray clock x p2' x1 (by simpa using y1) (by rw [← x4] ; simpa using h3)
  refine zAg hi h5 (v := .tuple #[x.key, x.val]) (by simp only [Rel]; exact ⟨_, rfl, RelL.cons y2 (RelL.one y3)⟩) ?_
  simp only [execOp, hop, q2, Sem.run_bind, hrun, Result.andThen_ok, Sem.run_pure]
end
end GoV
end
section
set_option linter.unusedSimpArgs false
set_option maxHeartbeats 1000000
namespace GoV
open Go
section
variable {P : Program} {ρ : Operand → Value} {o : Oper} {w0 : World} {g0 : Gh} {hp : Hp} {w : World} {g : Gh} {K : D → Hp → Prop}
theorem fold_run (f : Int → Int → Int) (gf : Value → Value → Sem Value) (hg : ∀ (k : IntKind) (a b : Int), gf (.int k a) (.int k b) = pure (.int k (f a b))) {k : IntKind} :
 ∀ (ds : List D) (vs : List Value) (n m : Int), foldI f k n ds = some m → RelL w g ds vs → ∀ w1 : World, (vs.foldlM gf (.int k n)).run P w1 = .ok (.int k m) w1
 | [], vs, n, m, h, hr, w1 => by
   rw [hr.inv_nil]
   simp [foldI] at h; subst h; rfl
 | d :: ds, vs, n, m, h, hr, w1 => by
   obtain ⟨v, vs', rfl, hv, hvs⟩ := hr.inv
   cases d <;> simp only [foldI] at h <;> first
    | (cases h; done)
    | skip
   rename_i k' j
   split at h
   ·rename_i e; subst e
    simp only [Rel] at hv; subst hv
    rw [List.foldlM_cons, hg]
    simpa using fold_run f gf hg ds vs' (f n j) m h hvs w1
   ·cases h
theorem snd_min {c : Call} (hop : o.op = .call c) (hc : c.callee = .builtin .min)
 (hi : Inv w0 g0 hp w g) {ds : List D} (hr : RelL w g ds (c.args.toList.map ρ)) (h : opWp .minI ds hp K) : Done P ρ o w0 g0 w g K := by
 obtain ⟨cs, hrun⟩ := zBx (ρ := ρ) (o := o) (P := P) (w := w) hop hc
 cases ds with
 | nil => simp only [opWp, mmWp] at h
 | cons d ds =>
   obtain ⟨v, vs, he, hv, hvs⟩ := hr.inv
   cases d <;> first
    | (simp only [opWp, mmWp] at h; done)
    | skip
   case str a =>
    rcases ds with _ | ⟨d2, _ | ⟨d3, r⟩⟩
    ·simp only [opWp, mmWp] at h
    ·cases d2 <;> first
      | (simp only [opWp, mmWp] at h; done)
      | skip
     rename_i b
     simp only [opWp, mmWp, if_true, if_false, Bool.false_eq_true] at h
     obtain ⟨v2, vs2, rfl, hv2, hvs2⟩ := hvs.inv
     rw [hvs2.inv_nil] at he
     simp only [Rel] at hv hv2; subst hv; subst hv2
     refine zDl hi h ?_
     rw [hrun]
     simp only [builtin, Builtin.min_, Array.toList_map, he, List.foldlM_cons, List.foldlM_nil, Builtin.min2, Op.stringOp]
     cases hb : Op.bytesLess a b <;> cases he2 : (a == b) <;> simp_all [zBp, asBool]
    ·cases d2 <;> simp only [opWp, mmWp] at h
   rename_i k n
   simp only [opWp, mmWp, if_true, if_false, Bool.false_eq_true] at h
   obtain ⟨m, hm, h⟩ := h
   simp only [Rel] at hv; subst hv
   refine zAz hi h ?_
   rw [hrun]
   have hf := fold_run (P := P) (fun a b => if b < a then b else a) Builtin.min2 (fun _ _ _ => rfl) ds vs n m hm hvs w
   simp only [builtin, Builtin.min_, Array.toList_map, he, Sem.run_bind, hf, Result.andThen_ok, Sem.run_pure]
theorem snd_max {c : Call} (hop : o.op = .call c) (hc : c.callee = .builtin .max)
 (hi : Inv w0 g0 hp w g) {ds : List D} (hr : RelL w g ds (c.args.toList.map ρ)) (h : opWp .maxI ds hp K) : Done P ρ o w0 g0 w g K := by
 obtain ⟨cs, hrun⟩ := zBx (ρ := ρ) (o := o) (P := P) (w := w) hop hc
 cases ds with
 | nil => simp only [opWp, mmWp] at h
 | cons d ds =>
   obtain ⟨v, vs, he, hv, hvs⟩ := hr.inv
   cases d <;> first
    | (simp only [opWp, mmWp] at h; done)
    | skip
   case str a =>
    rcases ds with _ | ⟨d2, _ | ⟨d3, r⟩⟩
    ·simp only [opWp, mmWp] at h
    ·cases d2 <;> first
      | (simp only [opWp, mmWp] at h; done)
      | skip
     rename_i b
     simp only [opWp, mmWp, if_true, if_false, Bool.false_eq_true] at h
     obtain ⟨v2, vs2, rfl, hv2, hvs2⟩ := hvs.inv
     rw [hvs2.inv_nil] at he
     simp only [Rel] at hv hv2; subst hv; subst hv2
     refine zDl hi h ?_
     rw [hrun]
     simp only [builtin, Builtin.max_, Array.toList_map, he, List.foldlM_cons, List.foldlM_nil, Builtin.max2, Op.stringOp]
     cases hb : Op.bytesLess a b <;> cases he2 : (a == b) <;> simp_all [zBp, asBool]
    ·cases d2 <;> simp only [opWp, mmWp] at h
   rename_i k n
   simp only [opWp, mmWp, if_true, if_false, Bool.false_eq_true] at h
   obtain ⟨m, hm, h⟩ := h
   simp only [Rel] at hv; subst hv
   refine zAz hi h ?_
   rw [hrun]
   have hf := fold_run (P := P) (fun a b => if b > a then b else a) Builtin.max2 (fun _ _ _ => rfl) ds vs n m hm hvs w
   simp only [builtin, Builtin.max_, Array.toList_map, he, Sem.run_bind, hf, Result.andThen_ok, Sem.run_pure]
theorem opWp_sound {oc : OC} {xs : List Operand} (hres : zAy P o.op = some (oc, xs)) (hnc : zAb oc = false)
 (hi : Inv w0 g0 hp w g) {ds : List D} (hr : RelL w g ds (xs.map ρ)) (h : opWp oc ds hp K) : Done P ρ o w0 g0 w g K := by
 cases hop : o.op <;> simp only [hop, zAy] at hres <;> try (cases hres; done)
 case move x => simp at hres; obtain ⟨rfl, rfl⟩ := hres; exact snd_mv (.inl hop) hi hr h
 case panic x => simp at hres; obtain ⟨rfl, rfl⟩ := hres; simp [opWp] at h
 case assign x => simp at hres; obtain ⟨rfl, rfl⟩ := hres; exact snd_mv (.inr hop) hi hr h
 case nilCheck x => simp at hres; obtain ⟨rfl, rfl⟩ := hres; exact snd_nck hop hi hr h
 case pick c a b => simp at hres; obtain ⟨rfl, rfl⟩ := hres; exact snd_pick hop hi hr h
 case alloc t =>
  cases hz : zCc P t with
  | none => simp [hz] at hres
  | some z =>
    simp [hz] at hres; obtain ⟨rfl, rfl⟩ := hres
    have := hr.length
    cases ds with
    | nil =>
      split at h
      ·exact snd_newT hop hz hi h
      ·exact snd_newb hop hz hi h
    | cons d ds => simp at this
 case box t x => simp at hres; obtain ⟨rfl, rfl⟩ := hres; exact snd_box hop hi hr h
 case build t parts =>
  cases hz : zCc P t with
  | none => simp [hz] at hres
  | some z =>
    cases hu : P.underlying t with
    | none => simp [hz, hu] at hres
    | some d =>
      cases d <;> simp only [hz, hu] at hres <;> first
       | (cases hres; done)
       | skip
      case struct fs =>
       cases hp : places P fs.toList with
       | none => simp [hp] at hres
       | some ps =>
         cases hq : GoV.pick ps (parts.toList.map (·.1)) with
         | none => simp [hp, hq] at hres
         | some q =>
           simp [hp, hq] at hres; obtain ⟨rfl, rfl⟩ := hres
           exact snd_bld hop hz (.inl ⟨fs, ps, hu, hp, hq⟩) hi hr h
      case array n e =>
       cases hk : szOf P e with
       | none => simp [hk] at hres
       | some k =>
         simp [hk] at hres; obtain ⟨rfl, rfl⟩ := hres
         exact snd_bld hop hz (.inr ⟨n, e, k, hu, hk, rfl⟩) hi hr h
 case load t x =>
  cases hs : szOf P t with
  | none => simp [hs] at hres
  | some n =>
    cases hu : P.underlying t with
    | none => simp [hs, hu] at hres
    | some d =>
      simp only [hs, hu] at hres
      have h2 := snd_ld (ρ := ρ) (K := K) hop hs hu hi (ds := ds)
      cases hd : zBi d <;> simp [hd] at hres h2 <;> obtain ⟨rfl, rfl⟩ := hres <;> exact h2 hr h
 case store t a v =>
  cases hs : szOf P t with
  | none => simp [hs] at hres
  | some n => simp [hs] at hres; obtain ⟨rfl, rfl⟩ := hres; exact snd_st hop hs hi hr h
 case binOp op t x y u =>
  simp only [resBin] at hres
  cases hu : P.underlying t with
  | none => simp [hu] at hres
  | some d =>
    cases d <;> simp only [hu] at hres <;> first
     | (cases hres; done)
     | skip
    case int k => simp at hres; obtain ⟨rfl, rfl⟩ := hres; exact snd_bin hop hi hr h
    case string => simp at hres; obtain ⟨rfl, rfl⟩ := hres; exact snd_bin hop hi hr h
    case bool =>
     cases op <;> simp at hres <;> obtain ⟨rfl, rfl⟩ := hres
     ·exact snd_eqB (neg := false) (by simpa using hop) hu hi hr h
     ·exact snd_eqB (neg := true) (by simpa using hop) hu hi hr h
    case struct fs =>
     split at hres
     case isFalse => cases hres
     rename_i hc
     cases hk : zCb P 40 0 fs.toList with
     | none => cases op <;> simp [hk] at hres
     | some ks =>
       cases op <;> simp [hk] at hres <;> obtain ⟨rfl, rfl⟩ := hres
       ·exact snd_eqA (neg := false) (by simpa using hop) hu hc.1 hc.2 hk hi hr h
       ·exact snd_eqA (neg := true) (by simpa using hop) hu hc.1 hc.2 hk hi hr h
    case slice e =>
     cases op <;> simp at hres <;> obtain ⟨rfl, rfl⟩ := hres
     ·exact snd_eqN (neg := false) (by simpa using hop) hu hi hr h
     ·exact snd_eqN (neg := true) (by simpa using hop) hu hi hr h
    case pointer e =>
     cases op <;> simp at hres <;> obtain ⟨rfl, rfl⟩ := hres
     ·exact snd_eqP (neg := false) (by simpa using hop) hu hi hr h
     ·exact snd_eqP (neg := true) (by simpa using hop) hu hi hr h
    case interface ms =>
     unfold resEqI at hres
     cases y <;> simp at hres
     cases op <;> simp at hres <;> obtain ⟨rfl, rfl⟩ := hres
     ·exact snd_eqI (neg := false) (by simpa using hop) hu ⟨_, rfl⟩ hi hr h
     ·exact snd_eqI (neg := true) (by simpa using hop) hu ⟨_, rfl⟩ hi hr h
 case unOp op t x => simp at hres; obtain ⟨rfl, rfl⟩ := hres; exact snd_un hop hi hr h
 case convert s t x =>
  unfold resCv at hres
  cases hs : P.underlying s with
  | none => simp [hs] at hres
  | some d =>
    cases ht : P.underlying t with
    | none => cases d <;> simp [hs, ht] at hres
    | some d2 =>
      cases d <;> cases d2 <;> simp [hs, ht] at hres
      case int.int => obtain ⟨rfl, rfl⟩ := hres; exact snd_cvI hop hs ht hi hr h
      case slice.string e =>
       cases he : P.underlying e with
       | none => simp [he] at hres
       | some d =>
         cases d <;> simp [he] at hres
         rename_i k
         cases k <;> simp at hres
         obtain ⟨rfl, rfl⟩ := hres
         exact snd_b2s hop hs ht he hi hr h
 case buildSlice t len parts =>
  unfold resBsl at hres
  cases hu : P.underlying t with
  | none => simp [hu] at hres
  | some d =>
    cases d <;> simp [hu] at hres
    rename_i e
    cases hk : szOf P e with
    | none => simp [hk] at hres
    | some k =>
      cases hz : zCc P e with
      | none => simp [hk, hz] at hres
      | some z =>
        simp [hk, hz] at hres
        obtain ⟨oc', ⟨⟨h1, h2, h3⟩, rfl⟩, rfl, rfl⟩ := hres
        exact snd_bsl hop hu hk hz h2 h3 h1 hi hr h
 case makeSlice t l c =>
  unfold resMks at hres
  cases hu : P.underlying t with
  | none => simp [hu] at hres
  | some d =>
    cases d <;> simp [hu] at hres
    rename_i e
    cases hk : P.info? e with
    | none => simp [hk] at hres
    | some i =>
      cases hz : zCc P e with
      | none => simp [hk, hz] at hres
      | some z =>
        simp [hk, hz] at hres
        obtain ⟨oc', ⟨h1, rfl⟩, rfl, rfl⟩ := hres
        obtain ⟨i', zv, q1, q2, q3⟩ := zB6 hz
        rw [hk] at q1; cases q1
        exact snd_mks hop ⟨hu, hk, q2, q3, h1⟩ hi hr h
 case range t x =>
  cases hu : P.underlying t with
  | none => simp [hu] at hres
  | some d =>
    cases d <;> simp [hu] at hres
    case string =>
     obtain ⟨rfl, rfl⟩ := hres
     exact snd_rngS hop hu hi hr h
    case map k e =>
     obtain ⟨rfl, rfl⟩ := hres
     exact snd_rngM hop hu hi hr h
 case next it b =>
  cases b <;> simp at hres <;> obtain ⟨rfl, rfl⟩ := hres
  ·exact snd_nxtM hop hi hr h
  ·exact snd_nxtS hop hi hr h
 case entry it => simp at hres; obtain ⟨rfl, rfl⟩ := hres; exact snd_ent hop hi hr h
 case makeMap t rs =>
  cases rs with
  | some x => simp at hres
  | none =>
    simp only [Option.map_eq_some_iff, Prod.mk.injEq] at hres
    obtain ⟨p, hm, rfl, rfl⟩ := hres
    exact snd_newM (t := t) (e := t) (kd := .bool) hop hi h
 case mapUpdate t m k v =>
  simp only [Option.map_eq_some_iff, Prod.mk.injEq] at hres
  obtain ⟨p, hm, rfl, rfl⟩ := hres
  exact snd_mpu (e := p.2) (.inl hop) hm hi hr h
 case insert t m k v =>
  simp only [Option.map_eq_some_iff, Prod.mk.injEq] at hres
  obtain ⟨p, hm, rfl, rfl⟩ := hres
  exact snd_mpu (e := p.2) (.inr hop) hm hi hr h
 case lookup t m k ok =>
  cases hm : mkOf P t with
  | none => simp [hm] at hres
  | some p =>
    simp only [hm, Option.map_eq_some_iff, Prod.mk.injEq] at hres
    obtain ⟨z, hz, rfl, rfl⟩ := hres
    exact snd_lkp hop hm hz hi hr h
 case makeInterface t x =>
  split at hres
  ·rename_i hc; simp at hres; obtain ⟨rfl, rfl⟩ := hres; exact snd_mkI hop hc hi hr h
  ·cases hres
 case makeFunc f first cap => simp at hres; obtain ⟨rfl, rfl⟩ := hres; exact snd_mkF hop hi hr h
 case slice t x lo hi2 mx =>
  cases mx with
  | some m =>
    cases lo with
    | none => simp at hres
    | some lo =>
      cases hi2 with
      | none => simp at hres
      | some hi2 =>
        cases hu : P.underlying t with
        | none => simp [hu] at hres
        | some d =>
          cases d <;> simp only [hu] at hres <;> first
           | (simp at hres; done)
           | skip
          cases hk : szOf P ‹TypeId› with
          | none => simp [hk] at hres
          | some k => simp [hk] at hres; obtain ⟨rfl, rfl⟩ := hres; exact snd_slc3 hop hu hk hi hr h
  | none =>
    unfold resSlc at hres
    cases hu : P.underlying t with
    | none => simp [hu] at hres
    | some d =>
      cases d <;> simp only [hu] at hres <;> first
       | (simp at hres; done)
       | skip
      case string => simp at hres; obtain ⟨rfl, rfl⟩ := hres; exact snd_slcS hop hu hi hr h
      case slice e =>
       cases hk : szOf P e with
       | none => simp [hk] at hres
       | some k => simp [hk] at hres; obtain ⟨rfl, rfl⟩ := hres; exact snd_slcL hop hu hk hi hr h
      case array n e =>
       cases hk : szOf P e with
       | none => simp [hk] at hres
       | some k => simp [hk] at hres; obtain ⟨rfl, rfl⟩ := hres; exact snd_slcA hop hu hk hi hr h
 case fieldAddr t x f =>
  cases hu : P.underlying t with
  | none => simp [hu] at hres
  | some d =>
    cases d <;> simp only [hu] at hres <;> first
     | (cases hres; done)
     | skip
    rename_i fs
    cases hf : fs[f]? with
    | none => simp [hf] at hres
    | some fl =>
      cases hm : szOf P fl.type with
      | none => simp [hf, hm] at hres
      | some n =>
        cases n with
        | zero => simp [hf, hm] at hres
        | succ n => simp [hf, hm] at hres; obtain ⟨rfl, rfl⟩ := hres; exact snd_fld hop hu hf hm hi hr h
 case field t x f =>
  cases hu : P.underlying t with
  | none => simp [hu] at hres
  | some d =>
    cases d <;> simp only [hu] at hres <;> first
     | (cases hres; done)
     | skip
    rename_i fs
    cases hf : fs[f]? with
    | none => simp [hf] at hres
    | some fl =>
      cases hm : szOf P fl.type with
      | none => simp [hf, hm] at hres
      | some n =>
        cases hd : P.underlying fl.type with
        | none => simp [hf, hm, hd] at hres
        | some d =>
          simp only [hf, hm, hd] at hres
          have h2 := snd_fv (ρ := ρ) (K := K) hop hu hf hm hd hi (ds := ds)
          cases he : zBi d <;> simp [he] at hres h2 <;> obtain ⟨rfl, rfl⟩ := hres <;> exact h2 hr h
 case indexAddr t x i =>
  cases hu : P.underlying t with
  | none => simp [hu] at hres
  | some d =>
    cases d <;> simp only [hu] at hres <;> first
     | (cases hres; done)
     | skip
    case array n e =>
     cases hk : szOf P e with
     | none => simp [hk] at hres
     | some k => simp [hk] at hres; obtain ⟨rfl, rfl⟩ := hres; exact snd_ixaA hop hu hk hi hr h
    case slice e =>
     cases hk : szOf P e with
     | none => simp [hk] at hres
     | some k => simp [hk] at hres; obtain ⟨rfl, rfl⟩ := hres; exact snd_ixaS hop hu hk hi hr h
 case index t x i =>
  cases hu : P.underlying t with
  | none => simp [hu] at hres
  | some d =>
    cases d <;> simp only [hu] at hres <;> first
     | (cases hres; done)
     | skip
    case string => simp at hres; obtain ⟨rfl, rfl⟩ := hres; exact snd_ixvS hop hu hi hr h
 case extract x i => simp at hres; obtain ⟨rfl, rfl⟩ := hres; exact snd_ext hop hi hr h
 case call c =>
  simp only [zFt] at hres
  cases hc : c.callee with
  | value f => simp [hc] at hres; obtain ⟨rfl, rfl⟩ := hres; simp [zAb] at hnc
  | invoke r m => simp [hc] at hres; obtain ⟨rfl, rfl⟩ := hres; simp [zAb] at hnc
  | builtin b =>
    cases b <;> simp only [hc] at hres <;> first
     | (cases hres; done)
     | skip
    case len =>
     split at hres
     case h_2 => cases hres
     rename_i t x ht hx
     cases hu : P.underlying t with
     | none => simp [hu] at hres
     | some d =>
       cases d <;> simp [hu] at hres
       case string => obtain ⟨rfl, rfl⟩ := hres; exact snd_lenS hop hc ht hx hu hi hr h
       case slice e => obtain ⟨rfl, rfl⟩ := hres; exact snd_lenL hop hc ht hx hu hi hr h
       case map k e => obtain ⟨rfl, rfl⟩ := hres; exact snd_lenM hop hc ht hx hu hi hr h
    case delete =>
     split at hres
     case h_2 => cases hres
     rename_i t m k ht hx
     simp only [Option.map_eq_some_iff, Prod.mk.injEq] at hres
     obtain ⟨p, hm, rfl, rfl⟩ := hres
     exact snd_mdl (e := p.2) hop hc ht hx hm hi hr h
    case append =>
     split at hres
     case h_2 => cases hres
     rename_i t u x y ht hx
     unfold resApp at hres
     cases hut : P.underlying t with
     | none => simp [hut] at hres
     | some d =>
       cases d <;> simp [hut] at hres
       rename_i e
       cases hk : P.info? e with
       | none => simp [hk] at hres
       | some i =>
         cases hz : zCc P e with
         | none => simp [hk, hz] at hres
         | some z =>
           simp [hk, hz] at hres
           obtain ⟨a, b, ⟨⟨h1, h2, h3⟩, rfl, rfl⟩, rfl, rfl⟩ := hres
           obtain ⟨i', zv, q1, q2, q3⟩ := zB6 hz
           rw [hk] at q1; cases q1
           refine snd_app hop hc (by apply Array.ext'; simpa using ht) hx ⟨hut, hk, q2, q3, h1⟩ h2 ?_ hi hr h
           cases huu : P.underlying u with
           | none => simp [huu] at h3
           | some d =>
             cases d <;> simp [huu] at h3
             ·exact .inr rfl
             ·exact .inl ⟨_, rfl⟩
    case copy =>
     split at hres
     case h_2 => cases hres
     rename_i t x y ht hx
     cases hu : P.underlying t with
     | none => simp [hu] at hres
     | some d =>
       cases d <;> simp [hu] at hres
       rename_i e
       cases hk : szOf P e with
       | none => simp [hk] at hres
       | some k => simp [hk] at hres; obtain ⟨rfl, rfl⟩ := hres; exact snd_cpy hop hc ht hx hu hk hi hr h
    case max => simp at hres; obtain ⟨rfl, rfl⟩ := hres; exact snd_max hop hc hi hr h
    case min => simp at hres; obtain ⟨rfl, rfl⟩ := hres; exact snd_min hop hc hi hr h
end
end GoV
end
section
set_option linter.unusedSimpArgs false
set_option maxHeartbeats 1000000
namespace GoV
open Go
def CallPost (w0 : World) (B : Gh) (w : World) (G : Gh) (K : D → Hp → Prop) (e : Ending) (w' : World) : Prop :=
 ∃ v d hp' G', e = .returned v ∧ K d hp' ∧ Inv w0 B hp' w' G' ∧ Evo w G w' G' ∧ Rel w' G' d v
def PanPost (M : Mod) (w0 : World) (B : Gh) (e : Ending) (w' : World) : Prop :=
 ∃ v d hp' G', e = .panicked [{ v, recovered := false }] ∧ M.pan d hp' ∧ Inv w0 B hp' w' G' ∧ Rel w' G' d v
def FR (ro : Option Nat) : Fence := { Fence.wide with round := ro }
theorem zFh {ro : Option Nat} {n : Nat} {P : Program} {f : FuncId} {args : Array Value} {w : World} {R : Ending → World → Prop} (h : Calls P f args w R) : CallsIn (FR ro) n P f args w R := by
 have h1 := callsIn_wide (n := n) |>.2 h
 cases ro with
 | none => exact h1
 | some l => exact CallsIn.inRound l h1
theorem roundIn_fr {ro : Option Nat} {n m : Nat} {P : Program} {l : Nat} {f : FuncId} {tmps : Array Value} {assign body : Code} {w : World} {R : Ending → World → Prop} (h : RoundIn Fence.wide m P l f tmps assign body w R) :
 RoundIn (FR ro) n P l f tmps assign body w R :=
 ⟨trivial, fun c cs _ => h.2 c cs (room_wide _)⟩
def CallOp (M : Mod) (ds : List D) (hp : Hp) (K : D → Hp → Prop) : Prop :=
 ∀ w0 B w G vs, M.start w0 B → Inv w0 B hp w G → RelL w G ds vs →
  (∃ f xs ys av, vs = .func (.func f) xs ys :: av ∧ zBu M f ∧ Calls M.P f (xs ++ av.toArray ++ ys) w (CallPost w0 B w G K)) ∨
  (∃ l av, vs = .func (.yield l) #[] #[] :: av ∧ YieldAt Fence.wide 0 M.P l av.toArray w (CallPost w0 B w G K)) ∨
  ∃ f xs ys av, vs = .func (.func f) xs ys :: av ∧ zBu M f ∧ Calls M.P f (xs ++ av.toArray ++ ys) w (PanPost M w0 B)
def zDz (M : Mod) (oc : OC) (ds : List D) : List D :=
 match oc with
 | .inv name =>
   match ds with
   | .iface t d :: args =>
     match zEt M.P t name with
     | some f => .fn (.func f) [d] [] :: args
     | none => [.u0]
   | _ => [.u0]
 | _ => ds
def PanOp (M : Mod) (ds : List D) (hp : Hp) : Prop := ∃ t d, ds = [.iface t d] ∧ M.pan (.iface t d) hp
def OcWp (M : Mod) (oc : OC) (ds : List D) (hp : Hp) (K : D → Hp → Prop) : Prop :=
 if zAb oc = true then CallOp M (zDz M oc ds) hp K else if isPan oc = true then PanOp M ds hp else opWp oc ds hp K
def headWp (M : Mod) (o : RO) (K : St → Prop) (s : St) : Prop :=
 match o.guard with
 | none => OcWp M o.oc (o.args.map s.get) s.hp fun d hp => K ({ s with hp := hp }.put o.dst d)
 | some (g, want) =>
   match s.get g with
   | .bool b => (b = want → OcWp M o.oc (o.args.map (s.setO g (.bool want)).get) s.hp fun d hp => K ({ s.setO g (.bool want) with hp := hp }.put o.dst d)) ∧
    (b = (!want) → K ((s.setO g (.bool (!want))).put o.dst .skip))
   | .skip => K (s.put o.dst .skip)
   | _ => False
def opsWp (M : Mod) : List RO → (St → Prop) → St → Prop
 | [], K, s => K s
 | o :: r, K, s => headWp M o (opsWp M r K) s
theorem run_call {M : Mod} {ρ : Operand → Value} {o : Oper} {c : Call} {g : Operand} (hop : o.op = .call c) (hc : c.callee = .value g) {f : FuncId} {xs ys : Array Value} (hf : ρ g = .func (.func f) xs ys)
 (hcb : zBu M f) (w : World) : (execOp ρ o).run M.P w = .ok (.enter f (xs ++ (c.args.map ρ) ++ ys)) w := by
 obtain ⟨fn, h1, h2, h3⟩ := hcb
 simp only [execOp, hop, resolve, hc, hf, Deferred.ofValue, Sem.run_bind, Sem.run_pure, Result.andThen_ok, invoke, callFunc, run_program, h1, h2, h3, Bool.false_eq_true, if_false]
theorem run_yieldcall {P : Program} {ρ : Operand → Value} {o : Oper} {c : Call} {g : Operand} (hop : o.op = .call c) (hc : c.callee = .value g) {l : Nat} (hf : ρ g = .func (.yield l) #[] #[]) (w : World) :
 (execOp ρ o).run P w = (Instr.yield l (c.args.map ρ)).run P w := by
 simp [execOp, hop, resolve, hc, hf, Deferred.ofValue, Sem.run_bind, Sem.run_pure, Result.andThen_ok, invoke]
theorem resMks_nc {P : Program} {t : TypeId} : resMks P t ≠ some .call := by
 unfold resMks
 (repeat' split) <;> simp
theorem resBsl_nc {P : Program} {t : TypeId} {n : Nat} {l : List Nat} : resBsl P t n l ≠ some .call := by
 unfold resBsl
 (repeat' split) <;> simp
theorem resCv_nc {P : Program} {s t : TypeId} : resCv P s t ≠ some .call := by
 unfold resCv
 (repeat' split) <;> simp
theorem resSlc_nc {P : Program} {t : TypeId} {a b : Bool} : resSlc P t a b ≠ some .call := by
 unfold resSlc
 (repeat' split) <;> simp
theorem resolve_call {P : Program} {op : Op} {xs : List Operand} (h : zAy P op = some (.call, xs)) : ∃ c g, op = .call c ∧ c.callee = .value g ∧ xs = g :: c.args.toList := by
 cases op <;> simp only [zAy] at h <;> try (cases h; done)
 case call c =>
  simp only [zFt] at h
  cases hc : c.callee with
  | value g => simp [hc] at h; exact ⟨c, g, rfl, hc, h.symm⟩
  | invoke r m => simp [hc] at h
  | builtin b =>
    exfalso
    cases b <;> simp only [hc] at h <;> try (cases h; done)
    all_goals (repeat' split at h) <;> simp at h
 case convert => simp only [Option.map_eq_some_iff, Prod.mk.injEq] at h; obtain ⟨oc, h1, rfl, _⟩ := h; exact absurd h1 resCv_nc
 case buildSlice => simp only [Option.map_eq_some_iff, Prod.mk.injEq] at h; obtain ⟨oc, h1, rfl, _⟩ := h; exact absurd h1 resBsl_nc
 case makeSlice => simp only [Option.map_eq_some_iff, Prod.mk.injEq] at h; obtain ⟨oc, h1, rfl, _⟩ := h; exact absurd h1 resMks_nc
 case slice =>
  split at h
  ·simp only [Option.map_eq_some_iff, Prod.mk.injEq] at h; obtain ⟨oc, h1, rfl, _⟩ := h; exact absurd h1 resSlc_nc
  ·exfalso
   split at h
   ·simp only [Option.map_eq_some_iff, Prod.mk.injEq] at h; obtain ⟨oc, h1, h2, _⟩ := h; cases h2
   ·cases h
 all_goals exfalso
 all_goals try unfold resBin resEqI at h
 all_goals (repeat' split at h) <;> simp_all
theorem resolve_pan {P : Program} {op : Op} {xs : List Operand} (h : zAy P op = some (.pan, xs)) : ∃ x, op = .panic x ∧ xs = [x] := by
 cases op <;> simp only [zAy] at h <;> try (cases h; done)
 case panic x => cases h; exact ⟨x, rfl, rfl⟩
 all_goals exfalso
 all_goals try unfold resBin resEqI at h
 all_goals try simp only [zFt, resMks, resBsl, resCv, resSlc, Option.map_eq_some_iff] at h
 all_goals (repeat' split at h) <;> simp_all
theorem resolve_inv {P : Program} {op : Op} {name : String} {xs : List Operand} (h : zAy P op = some (.inv name, xs)) : ∃ c g, op = .call c ∧ c.callee = .invoke g name ∧ xs = g :: c.args.toList := by
 cases op <;> simp only [zAy] at h <;> try (cases h; done)
 case call c =>
  simp only [zFt] at h
  cases hc : c.callee with
  | value g => simp [hc] at h
  | invoke r m => simp [hc] at h; obtain ⟨rfl, rfl⟩ := h; exact ⟨c, r, rfl, hc, rfl⟩
  | builtin b =>
    exfalso
    cases b <;> simp only [hc] at h <;> try (cases h; done)
    all_goals (repeat' split at h) <;> simp at h
 all_goals exfalso
 all_goals try unfold resBin resEqI at h
 all_goals try simp only [resMks, resBsl, resCv, resSlc, Option.map_eq_some_iff] at h
 all_goals (repeat' split at h) <;> simp_all
theorem callDs_cases (M : Mod) (name : String) (ds : List D) : (∃ t d args f, ds = .iface t d :: args ∧ zEt M.P t name = some f ∧ zDz M (.inv name) ds = .fn (.func f) [d] [] :: args) ∨ zDz M (.inv name) ds = [.u0] := by
 simp only [zDz]
 split
 ·rename_i t d args
  split
  ·rename_i f hf; exact .inl ⟨t, d, args, f, rfl, hf, rfl⟩
  ·exact .inr rfl
 ·exact .inr rfl
theorem run_inv {M : Mod} {ρ : Operand → Value} {o : Oper} {c : Call} {g : Operand} {name : String} (hop : o.op = .call c) (hc : c.callee = .invoke g name) {t : TypeId} {y : Value} (hg : ρ g = .iface t y) {f : FuncId} (hm : zEt M.P t name = some f)
 (hcb : zBu M f) (w : World) : (execOp ρ o).run M.P w = .ok (.enter f (#[y] ++ c.args.map ρ)) w := by
 obtain ⟨fn, h1, h2, h3⟩ := hcb
 unfold zEt at hm
 split at hm
 case h_2 => cases hm
 rename_i i hi
 split at hm
 case h_2 => cases hm
 rename_i m hfm
 split at hm
 case h_2 => cases hm
 rename_i f' fs hfu hpa hun
 cases hm
 have hrun : (method (M.P.types.size + Made.depth) t y name).run M.P w = .ok (f, y) w := by
  have h0 : 0 < Made.depth := by decide
  obtain ⟨k, hk⟩ : ∃ k, M.P.types.size + Made.depth = k + 1 := ⟨M.P.types.size + Made.depth - 1, by omega⟩
  rw [hk]
  simp only [method, typeInfo, Sem.run_bind, run_program, Result.andThen_ok, hi, Sem.run_pure, hfm, hpa, follow, hfu, receiverAt, run_underlying hun, Place.get]
 have harr : (#[ρ g] ++ c.args.map ρ : Array Value)[0]? = some (.iface t y) := by simp [hg, Array.getElem?_append]
 have hext : (#[ρ g] ++ c.args.map ρ : Array Value).extract 1 (#[ρ g] ++ c.args.map ρ).size = c.args.map ρ := by
  apply Array.ext'; simp; exact List.take_of_length_le (by simp)
 simp only [execOp, hop, resolve, hc, Sem.run_bind, Sem.run_pure, Result.andThen_ok, invoke, harr, hext, callMethod, run_program, hrun, callFunc, h1, h2, h3, Bool.false_eq_true, if_false]
theorem isPan_eq {oc : OC} (h : isPan oc = true) : oc = .pan := by
 cases oc <;> first
  | (rename_i k; cases k <;> first | rfl | (simp [isPan] at h; done))
  | (simp [isPan] at h; done)
theorem isCall_eq {oc : OC} (h : zAb oc = true) : oc = .call ∨ ∃ name, oc = .inv name := by
 cases oc <;> first
  | (rename_i k; cases k <;> first | exact .inl rfl | exact .inr ⟨_, rfl⟩ | (simp [zAb] at h; done))
  | (simp [zAb] at h; done)
theorem OcWp_sound {M : Mod} {o : Oper} {a : Act} {w0 : World} {B : Gh} {hp : Hp} {w : World} {G : Gh} {K : D → Hp → Prop}
 {oc : OC} {xs : List Operand} {ro : Option Nat} (hres : zAy M.P o.op = some (oc, xs)) (hA : M.start w0 B) (hi : Inv w0 B hp w G) {ds : List D} (hr : RelL w G ds (xs.map a.eval)) (h : OcWp M oc ds hp K)
 {next : Act → World → Prop} {Q : Exit → Act → World → Prop} (hQ : ∀ ch w', PanPost M w0 B (.panicked ch) w' → Q (.panic ch) a w')
 (hn : ∀ d hp' G' v w', K d hp' → Inv w0 B hp' w' G' → Evo w G w' G' → Rel w' G' d v → next (a.put o.dst v) w') :
 o.wpIn (FR ro) 0 M.P a w next Q := by
 have hnd : ∀ c, o.op ≠ .defer c := by
  intro c hop
  rw [hop] at hres
  simp [zAy] at hres
 unfold OcWp at h
 unfold Oper.wpIn
 rw [Oper.semAt_eq _ _ _ hnd]
 refine ⟨fun _ _ => trivial, ?_⟩
 cases hc : zAb oc <;> simp only [hc, if_true, if_false, Bool.false_eq_true] at h
 ·cases hpn : isPan oc <;> simp only [hpn, if_true, if_false, Bool.false_eq_true] at h
  ·obtain ⟨d, hp', G', v, w', h1, h2, h3, h4, h5⟩ := opWp_sound (ρ := a.eval) hres hc hi hr h
   rcases h5 with h5 | ⟨h5, rfl⟩ <;> rw [h5] <;> exact hn _ _ _ _ _ h1 h2 h3 h4
  ·obtain rfl := isPan_eq hpn
   obtain ⟨x, hop, rfl⟩ := resolve_pan hres
   obtain ⟨t, d, rfl, h2⟩ := h
   obtain ⟨v, vs, hv, h3, h4⟩ := hr.inv
   simp only [List.map_cons, List.map_nil, List.cons.injEq] at hv
   obtain ⟨hv, rfl⟩ := hv
   have h3' := h3
   simp only [Rel] at h3'
   obtain ⟨y, rfl, _⟩ := h3'
   have hrun : (execOp a.eval o).run M.P w = .halt (.panic (.iface t y)) w := by
    simp only [execOp, hop, hv, Instr.panic]
    rfl
   rw [hrun]
   exact hQ _ _ ⟨_, _, _, _, rfl, h2, hi, h3⟩
 ·rcases isCall_eq hc with rfl | ⟨name, rfl⟩
  rotate_left
  ·
    obtain ⟨c, g, hop, hcc, rfl⟩ := resolve_inv hres
    rcases callDs_cases M name ds with ⟨t, d, args, f, rfl, hm, hcd⟩ | hcd
    ·rw [hcd] at h
     obtain ⟨v, av, hv, h1, h2⟩ := hr.inv
     simp only [List.map_cons, List.cons.injEq] at hv
     obtain ⟨hv1, hv2⟩ := hv
     simp only [Rel] at h1
     obtain ⟨y, rfl, h3⟩ := h1
     have hrel : RelL w G (.fn (.func f) [d] [] :: args) (.func (.func f) #[y] #[] :: av) := by
      refine RelL.cons ?_ h2
      simp only [Rel]
      exact ⟨[y], [], rfl, RelL.one h3, RelL.nil⟩
     have e6 : c.args.map a.eval = av.toArray := by apply Array.ext'; simpa using hv2
     rcases h _ _ _ _ _ hA hi hrel with ⟨f', xs', ys', av', e1, e2, e3⟩ | ⟨l, av', e1, _⟩ | ⟨f', xs', ys', av', e1, e2, e3⟩
     ·simp only [List.cons.injEq, Value.func.injEq, Fn.func.injEq] at e1
      obtain ⟨⟨rfl, rfl, rfl⟩, rfl⟩ := e1
      rw [run_inv hop hcc hv1 hm e2, e6]
      refine ⟨fun hd => by simp [FR, Fence.wide] at hd, ?_⟩
      refine zFh (Calls.mono (by simpa using e3) fun e w' hp => ?_)
      obtain ⟨v, d, hp', G', rfl, g1, g2, g3, g4⟩ := hp
      exact hn _ _ _ _ _ g1 g2 g3 g4
     ·simp at e1
     ·simp only [List.cons.injEq, Value.func.injEq, Fn.func.injEq] at e1
      obtain ⟨⟨rfl, rfl, rfl⟩, rfl⟩ := e1
      rw [run_inv hop hcc hv1 hm e2, e6]
      refine ⟨fun hd => by simp [FR, Fence.wide] at hd, ?_⟩
      refine zFh (Calls.mono (by simpa using e3) fun e w' hp => ?_)
      obtain ⟨v, d, hp', G', rfl, g1, g2, g3⟩ := hp
      exact hQ _ _ ⟨v, d, hp', G', rfl, g1, g2, g3⟩
    ·exfalso
     rw [hcd] at h
     rcases h _ _ _ _ [.bool true] hA hi (by simp [RelL, Rel]) with ⟨f', xs', ys', av', e1, _⟩ | ⟨l, av', e1, _⟩ | ⟨f', xs', ys', av', e1, _⟩ <;> simp at e1
  obtain ⟨c, g, hop, hcc, rfl⟩ := resolve_call hres
  rcases h _ _ _ _ _ hA hi hr with ⟨f, xs, ys, av, e1, e2, e3⟩ | ⟨l, av, e1, fn, tmps, as, bd, e2, e3⟩ | ⟨f, xs, ys, av, e1, e2, e3⟩
  ·simp only [List.map_cons, List.cons.injEq] at e1
   obtain ⟨e4, e5⟩ := e1
   rw [run_call hop hcc e4 e2]
   have e6 : c.args.map a.eval = av.toArray := by apply Array.ext'; simpa using e5
   rw [e6]
   refine ⟨fun hd => by simp [FR, Fence.wide] at hd, ?_⟩
   refine zFh (Calls.mono e3 fun e w' hp => ?_)
   obtain ⟨v, d, hp', G', rfl, g1, g2, g3, g4⟩ := hp
   exact hn _ _ _ _ _ g1 g2 g3 g4
  ·simp only [List.map_cons, List.cons.injEq] at e1
   obtain ⟨e4, e5⟩ := e1
   have e6 : c.args.map a.eval = av.toArray := by apply Array.ext'; simpa using e5
   rw [run_yieldcall hop hcc e4, e6, e2]
   refine ⟨fun hd => by simp [FR, Fence.wide] at hd, ?_⟩
   refine roundIn_fr (RoundIn.mono e3 fun e w' hp => ?_)
   obtain ⟨v, d, hp', G', rfl, g1, g2, g3, g4⟩ := hp
   exact hn _ _ _ _ _ g1 g2 g3 g4
  ·simp only [List.map_cons, List.cons.injEq] at e1
   obtain ⟨e4, e5⟩ := e1
   rw [run_call hop hcc e4 e2]
   have e6 : c.args.map a.eval = av.toArray := by apply Array.ext'; simpa using e5
   rw [e6]
   refine ⟨fun hd => by simp [FR, Fence.wide] at hd, ?_⟩
   refine zFh (Calls.mono e3 fun e w' hp => ?_)
   obtain ⟨v, d, hp', G', rfl, g1, g2, g3⟩ := hp
   exact hQ _ _ ⟨v, d, hp', G', rfl, g1, g2, g3⟩
end GoV
end
section
set_option linter.unusedSimpArgs false
namespace GoV
open Go
structure Cfg where
 M : Mod
 pers : List Nat
 nt : Nat
 n0 : Nat := 0
 m0 : Nat := 0
 dfs : List Deferred := []
def Cfg.P (C : Cfg) : Program := C.M.P
def idx (t : Nat) : List Nat → Option Nat
 | [] => none
 | u :: r => if u = t then some 0 else (idx t r).map (· + 1)
theorem zCr {t i : Nat} : ∀ {l : List Nat}, idx t l = some i → l[i]? = some t
 | [], h => by simp [idx] at h
 | u :: r, h => by
   simp only [idx] at h
   split at h
   ·rename_i e; simp at h; subst h; simp [e]
   ·cases hr : idx t r with
    | none => simp [hr] at h
    | some j => simp [hr] at h; subst h; simpa using zCr hr
def St.slot (s : St) (pers : List Nat) (t : Nat) : D :=
 match idx t pers with
 | some i => s.env.getD i .u0
 | none => lk s.scr t
def Sim (C : Cfg) (w0 : World) (B : Gh) (s : St) (a : Act) (w : World) : Prop :=
 ∃ G, Inv w0 B s.hp w G ∧ (B.r.length = C.n0 ∧ B.tk.length = C.m0) ∧ a.tmps.size = C.nt ∧ a.defers = C.dfs ∧ s.env.length = C.pers.length ∧
  ∀ t, Rel w G (s.slot C.pers t) (a.tmps.getD t Go.undef)
def PQ (C : Cfg) (w0 : World) (B : Gh) (Q : Exit → Act → World → Prop) : Prop := ∀ a w ch, a.defers = C.dfs → PanPost C.M w0 B (.panicked ch) w → Q (.panic ch) a w
def resO (C : Cfg) : Operand → Option Opd
 | .tmp t => if t < C.nt then match idx t C.pers with
   | some i => some (.v i)
   | none => some (.l t)
   else none
 | .const v => (toD v).map .con
 | .global _ => none
 | .func f => some (.con (.fn (.func f) [] []))
def resOs (C : Cfg) : List Operand → Option (List Opd)
 | [] => some []
 | x :: xs => match resO C x, resOs C xs with
   | some y, some ys => some (y :: ys)
   | _, _ => none
def zB4 (C : Cfg) : Option Nat → Option Dst
 | none => some .none
 | some t => if t < C.nt then match idx t C.pers with
   | some i => some (.v i)
   | none => some (.l t)
   else none
def zB0 (C : Cfg) (ops : Array Oper) : Option (Nat × Bool) → Option (Option (Opd × Bool))
 | none => some none
 | some (j, want) =>
   match (ops[j]?).bind (·.dst) with
   | some t => (resO C (.tmp t)).map fun g => some (g, want)
   | none => none
def zC3 (C : Cfg) (ops : Array Oper) (o : Oper) : Option RO :=
 match zAy C.P o.op with
 | some (oc, xs) =>
   match resOs C xs, zB4 C o.dst, zB0 C ops o.guard with
   | some args, some dst, some guard => some { dst, oc, args, guard }
   | _, _, _ => none
 | none => none
def zBh (C : Cfg) (ops : Array Oper) : List Nat → Option (List RO)
 | [] => some []
 | i :: r =>
   match ops[i]? with
   | some o =>
     match zC3 C ops o, zBh C ops r with
     | some x, some xs => some (x :: xs)
     | _, _ => none
   | none => none
section
variable {C : Cfg} {w0 : World} {B : Gh}
theorem slot_env {s : St} {t i : Nat} (h : idx t C.pers = some i) : s.slot C.pers t = s.env.getD i .u0 := by simp [St.slot, h]
theorem slot_scr {s : St} {t : Nat} (h : idx t C.pers = none) : s.slot C.pers t = lk s.scr t := by simp [St.slot, h]
theorem zGd {s : St} {a : Act} {w : World} {G : Gh} (hs : ∀ t, Rel w G (s.slot C.pers t) (a.tmps.getD t Go.undef))
 {x : Operand} {y : Opd} (h : resO C x = some y) : Rel w G (s.get y) (a.eval x) := by
 cases x with
 | tmp t =>
   simp only [resO] at h
   split at h
   case isFalse => cases h
   have := hs t
   split at h
   ·rename_i i hi; simp at h; subst h; rw [slot_env hi] at this; exact this
   ·rename_i hi; simp at h; subst h; rw [slot_scr hi] at this; exact this
 | const v =>
   simp only [resO] at h
   cases hv : toD v with
   | none => simp [hv] at h
   | some d =>
     simp [hv] at h; subst h
     exact (toD_rel (w := w) (g := G) hv).1.any
 | global g => simp [resO] at h
 | func f =>
   simp only [resO, Option.some.injEq] at h; subst h
   simp only [St.get, Rel, Act.eval]
   exact ⟨[], [], rfl, RelL.nil, RelL.nil⟩
theorem resOs_rel {s : St} {a : Act} {w : World} {G : Gh} (hs : ∀ t, Rel w G (s.slot C.pers t) (a.tmps.getD t Go.undef)) :
 ∀ {xs : List Operand} {ys : List Opd}, resOs C xs = some ys → RelL w G (ys.map s.get) (xs.map a.eval)
 | [], ys, h => by simp [resOs] at h; subst h; exact RelL.nil
 | x :: xs, ys, h => by
   simp only [resOs] at h
   cases h1 : resO C x with
   | none => simp [h1] at h
   | some y =>
     cases h2 : resOs C xs with
     | none => simp [h1, h2] at h
     | some zs =>
       simp [h1, h2] at h; subst h
       exact RelL.cons (zGd hs h1) (resOs_rel hs h2)
theorem put_rel {s : St} {a : Act} {w : World} {G : Gh} (hs : ∀ t, Rel w G (s.slot C.pers t) (a.tmps.getD t Go.undef))
 (hn : a.tmps.size = C.nt) (hl : s.env.length = C.pers.length) {dst : Option Nat} {d : D} {v : Value} {ds : Dst} (h : zB4 C dst = some ds) (hv : Rel w G d v) :
 ∀ t, Rel w G ((s.put ds d).slot C.pers t) ((a.put dst v).tmps.getD t Go.undef) := by
 intro t
 cases dst with
 | none => simp [zB4] at h; subst h; simpa [St.put, Act.put] using hs t
 | some u =>
   simp only [zB4] at h
   split at h
   case isFalse => cases h
   rename_i hu
   have hval : (a.put (some u) v).tmps.getD t Go.undef = if u = t then v else a.tmps.getD t Go.undef := by
    simp only [Act.put, Array.getD_eq_getD_getElem?, Array.getElem?_setIfInBounds]
    by_cases e : u = t
    ·subst e; simp [hn, hu]
    ·simp [e]
   rw [hval]
   split at h
   ·rename_i i hi; simp at h; subst h
    by_cases e : u = t
    ·subst e
     have hlt : i < s.env.length := by
      rw [hl]
      have := zCr hi
      rcases Nat.lt_or_ge i C.pers.length with g | g
      ·exact g
      ·rw [List.getElem?_eq_none g] at this; cases this
     rw [slot_env hi]; simpa [St.put, List.getD, hlt] using hv
    ·rw [if_neg e]
     have := hs t
     cases hj : idx t C.pers with
     | none => rw [slot_scr hj] at this ⊢; exact this
     | some j =>
       rw [slot_env hj] at this ⊢
       have hne : i ≠ j := by
        intro e'; subst e'
        have h1 := zCr hi
        have h2 := zCr hj
        rw [h1] at h2; cases h2; exact e rfl
       simpa [St.put, List.getD, List.getElem?_set, hne] using this
   ·rename_i hi; simp at h; subst h
    by_cases e : u = t
    ·subst e; rw [slot_scr hi]; simpa [St.put, lk] using hv
    ·rw [if_neg e]
     have := hs t
     cases hj : idx t C.pers with
     | none => rw [slot_scr hj] at this ⊢; simpa [St.put, lk, e] using this
     | some j => rw [slot_env hj] at this ⊢; simpa [St.put] using this
theorem zBg (s : St) (ds : Dst) (d : D) : (s.put ds d).env.length = s.env.length := by cases ds <;> simp [St.put]
theorem zDh (s : St) (ds : Dst) (d : D) : (s.put ds d).hp = s.hp := by cases ds <;> rfl
theorem zB8 (a : Act) (dst : Option Nat) (v : Value) : (a.put dst v).tmps.size = a.tmps.size := by cases dst <;> simp [Act.put]
theorem zC0 (a : Act) (dst : Option Nat) (v : Value) : (a.put dst v).defers = a.defers := by cases dst <;> rfl
theorem Sim.put {s : St} {a : Act} {w : World} (h : Sim C w0 B s a w) {dst : Option Nat} {ds : Dst} (hd : zB4 C dst = some ds) {G d v} (hi : Inv w0 B s.hp w G)
 (hr : ∀ t, Rel w G (s.slot C.pers t) (a.tmps.getD t Go.undef)) (hv : Rel w G d v) : Sim C w0 B (s.put ds d) (a.put dst v) w := by
 obtain ⟨_, _, hb, h1, h2, h3, _⟩ := h
 exact ⟨G, by rw [zDh]; exact hi, hb, by rw [zB8]; exact h1, by rw [zC0]; exact h2, by rw [zBg]; exact h3, put_rel hr h1 h3 hd hv⟩
theorem zF8 {s : St} {pers : List Nat} {g : Opd} {t : Nat} (hg : (match idx t pers with | some i => g = .v i | none => g = .l t)) (hl : s.env.length = pers.length) (d : D) (u : Nat) :
 (s.setO g d).slot pers u = if t = u then d else s.slot pers u := by
 cases hi : idx t pers with
 | some i =>
   rw [hi] at hg; simp at hg; subst hg
   have hlt : i < s.env.length := by
    rw [hl]
    have := zCr hi
    rcases Nat.lt_or_ge i pers.length with g | g
    ·exact g
    ·rw [List.getElem?_eq_none g] at this; cases this
   by_cases e : t = u
   ·subst e; simp [St.slot, St.setO, hi, List.getD, hlt]
   ·cases hj : idx u pers with
    | none => simp [St.slot, St.setO, hj, e]
    | some j =>
      have hne : i ≠ j := by
       intro e'; subst e'
       have h1 := zCr hi
       have h2 := zCr hj
       rw [h1] at h2; cases h2; exact e rfl
      simp [St.slot, St.setO, hj, e, List.getD, List.getElem?_set, hne]
 | none =>
   rw [hi] at hg; simp at hg; subst hg
   by_cases e : t = u
   ·subst e; simp [St.slot, St.setO, hi, lk_setK]
   ·cases hj : idx u pers with
    | none => simp [St.slot, St.setO, hj, e, lk_setK]
    | some j => simp [St.slot, St.setO, hj, e]
theorem zD7 (s : St) (g : Opd) (d : D) : (s.setO g d).hp = s.hp := by cases g <;> rfl
theorem zCn (s : St) (g : Opd) (d : D) : (s.setO g d).env.length = s.env.length := by cases g <;> simp [St.setO]
theorem zEa {t : Nat} {g : Opd} (h : resO C (.tmp t) = some g) : (match idx t C.pers with | some i => g = .v i | none => g = .l t) ∧ t < C.nt := by
 simp only [resO] at h
 split at h
 case isFalse => cases h
 rename_i ht
 refine ⟨?_, ht⟩
 split at h
 iterate 2
  ·simpa using h.symm
theorem zGk {s : St} {t : Nat} {g : Opd} (h : resO C (.tmp t) = some g) : s.get g = s.slot C.pers t := by
 have := (zEa h).1
 cases hi : idx t C.pers with
 | some i => rw [hi] at this; simp at this; subst this; simp [St.get, St.slot, hi]
 | none => rw [hi] at this; simp at this; subst this; simp [St.get, St.slot, hi]
theorem head_sound {ro : Option Nat} {Q : Exit → Act → World → Prop} (hA : C.M.start w0 B ∧ PQ C w0 B Q) {ops : Array Oper} {o : Oper} {x : RO} {K : St → Prop} {next : Act → World → Prop} (h1 : zC3 C ops o = some x)
 {s : St} {a : Act} {w : World} (ih : ∀ s a w, K s → Sim C w0 B s a w → next a w) (h : headWp C.M x K s) (hs : Sim C w0 B s a w) :
 if Region.wanted o (yielded ops a.tmps) then o.wpIn (FR ro) 0 C.P a w next Q else (∀ f, o.about C.P w a.eval = some f → (FR ro).fn f) ∧ next (a.put o.dst Go.undef) w := by
 unfold zC3 at h1
 cases hres : zAy C.P o.op with
 | none => simp [hres] at h1
 | some p =>
   obtain ⟨oc, ys⟩ := p
   cases ha : resOs C ys with
   | none => simp [hres, ha] at h1
   | some args =>
     cases hd : zB4 C o.dst with
     | none => simp [hres, ha, hd] at h1
     | some dst =>
       cases hg : zB0 C ops o.guard with
       | none => simp [hres, ha, hd, hg] at h1
       | some guard =>
         simp [hres, ha, hd, hg] at h1; subst h1
         have run : ∀ s : St, OcWp C.M oc (args.map s.get) s.hp (fun d hp => K ({ s with hp := hp }.put dst d)) → Sim C w0 B s a w → o.wpIn (FR ro) 0 C.P a w next Q := by
          intro s hoc hs
          obtain ⟨G, hi, gb, g1, g2, g3, g4⟩ := hs
          refine OcWp_sound hres hA.1 hi (resOs_rel g4 ha) hoc (fun ch w' hp => hA.2 _ _ _ g2 hp) ?_
          intro d hp' G' v w' k1 k2 k3 k4
          refine ih _ _ _ k1 ?_
          have g4' : ∀ t, Rel w' G' ({ s with hp := hp' }.slot C.pers t) (a.tmps.getD t Go.undef) := fun t => Rel.evo _ k3 (g4 t)
          exact Sim.put (s := { s with hp := hp' }) ⟨G', k2, gb, g1, g2, g3, g4'⟩ hd k2 g4' k4
         cases hog : o.guard with
         | none =>
           simp [hog, zB0] at hg; subst hg
           simp only [headWp] at h
           simp only [Region.wanted, hog, if_true]
           exact run s h hs
         | some p =>
           obtain ⟨j, want⟩ := p
           simp only [hog, zB0] at hg
           cases hj : (ops[j]?).bind (·.dst) with
           | none => simp [hj] at hg
           | some t =>
             simp only [hj] at hg
             cases hgo : resO C (.tmp t) with
             | none => simp [hgo] at hg
             | some g =>
               simp [hgo] at hg; subst hg
               have hsg := hs
               obtain ⟨G, hi, gb, g1, g2, g3, g4⟩ := hs
               have hrel := g4 t
               rw [← zGk hgo] at hrel
               have htn := (zEa hgo).2
               have hy : yielded ops a.tmps j = match a.tmps.getD t Go.undef with | .bool b => some b | _ => none := by
                have hlt : t < a.tmps.size := g1.symm ▸ htn
                simp [yielded, hj, Array.getD_eq_getD_getElem?, hlt]
                cases a.tmps[t] <;> rfl
               simp only [headWp] at h
               have narrow : ∀ b, s.get g = .bool b → Sim C w0 B (s.setO g (.bool b)) a w := by
                intro b hb
                refine ⟨G, by rw [zD7]; exact hi, gb, g1, g2, by rw [zCn]; exact g3, fun u => ?_⟩
                rw [zF8 (zEa hgo).1 g3]
                split
                ·rename_i e; subst e; rw [hb] at hrel; exact hrel
                ·exact g4 u
               have skipTo : ∀ s2 : St, Sim C w0 B s2 a w → K (s2.put dst .skip) → next (a.put o.dst Go.undef) w := by
                intro s2 hs2 hk
                refine ih _ _ _ hk ?_
                obtain ⟨G2, q0, qb, q1, q2, q3, q4⟩ := hs2
                exact Sim.put ⟨G2, q0, qb, q1, q2, q3, q4⟩ hd q0 q4 (by simp [Rel])
               cases hb : s.get g <;> simp only [hb] at h
               case bool b =>
                rw [hb] at hrel
                simp only [Rel] at hrel
                have hw : Region.wanted o (yielded ops a.tmps) = (b == want) := by
                 simp only [Region.wanted, hog, hy, hrel]
                 cases b <;> cases want <;> rfl
                rw [hw]
                cases hbw : (b == want)
                ·have e : b = (!want) := by cases b <;> cases want <;> simp_all
                 subst e
                 simp only [Bool.false_eq_true, if_false]
                 exact ⟨fun _ _ => trivial, skipTo _ (narrow _ hb) (h.2 rfl)⟩
                ·have e : b = want := by simpa using hbw
                 subst e
                 simp only [if_true]
                 refine run _ ?_ (narrow _ hb)
                 have := h.1 rfl
                 rw [zD7]; exact this
               case skip =>
                rw [hb] at hrel
                simp only [Rel] at hrel
                have hw : Region.wanted o (yielded ops a.tmps) = false := by
                 simp only [Region.wanted, hog]
                 rw [hy, hrel]
                 cases want <;> rfl
                rw [hw]
                simp only [Bool.false_eq_true, if_false]
                exact ⟨fun _ _ => trivial, skipTo s hsg h⟩
theorem zCk {ops : Array Oper} {i : Nat} {l : List Nat} {ros : List RO} (h : zBh C ops (i :: l) = some ros) : ∃ o x xs, ops[i]? = some o ∧ zC3 C ops o = some x ∧ zBh C ops l = some xs ∧ ros = x :: xs := by
 simp only [zBh] at h
 cases ho : ops[i]? with
 | none => simp [ho] at h
 | some o =>
   cases h1 : zC3 C ops o with
   | none => simp [ho, h1] at h
   | some x =>
     cases h2 : zBh C ops l with
     | none => simp [ho, h1, h2] at h
     | some xs => simp [ho, h1, h2] at h; exact ⟨o, x, xs, rfl, h1, rfl, h.symm⟩
theorem ops_sound {ro : Option Nat} {Q : Exit → Act → World → Prop} (hA : C.M.start w0 B ∧ PQ C w0 B Q) {ops : Array Oper} {K : St → Prop} (hK : ∀ s a w, K s → Sim C w0 B s a w → Q .normal a w) :
 ∀ (l : List Nat) (ros : List RO) (s : St) (a : Act) (w : World), zBh C ops l = some ros → opsWp C.M ros K s → Sim C w0 B s a w → wpOpsIn (FR ro) 0 C.P ops Q l a w
 | [], ros, s, a, w, hr, h, hs => by
   simp [zBh] at hr; subst hr
   exact hK s a w h hs
 | i :: l, ros, s, a, w, hr, h, hs => by
   obtain ⟨o, x, xs, ho, h1, h2, rfl⟩ := zCk hr
   simp only [wpOpsIn, ho]
   exact head_sound hA h1 (fun s a w h hs => ops_sound hA (ops := ops) (Q := Q) hK l xs s a w h2 h hs) h hs
end
end GoV
end
section
set_option linter.unusedSimpArgs false
namespace GoV
open Go
section
variable {P : Program} {b : Frame} {a : Act} {k : List Item} {cs : List Frame} {w : World} {Q : Exit → Act → World → Prop} {F : Fence} {n : Nat}
theorem zCj {c : Code} : step P (lone (b.atR a (.code (.scope c) :: k)) cs w) = .next (lone (b.atR a (.code c :: .inScope c :: k)) cs w) :=
 step_lone_go (by simp [stepG, stepG.exec, Frame.atR])
theorem stepR_inScope {c : Code} : step P (lone (b.atR a (.inScope c :: k)) cs w) = .next (lone (b.atR a k) cs w) :=
 step_lone_go (by simp [stepG, stepG.exec, Frame.atR])
theorem wpIn_scope {c : Code} (h : c.wpIn F n P Q a w) (hg : ∀ l a w, ¬ Q (.goto l) a w) : (Code.scope c).wpIn F n P Q a w := by
 intro b k cs hro hb hr
 have h0 : (lone (b.atR a (.code (.scope c) :: k)) cs w).fenced P F := fenced_calm hb hr rfl
 obtain ⟨e, a₁, w₁, hq, harr⟩ := h b (.inScope c :: k) cs hro hb hr
 cases e with
 | normal => exact ⟨.normal, a₁, w₁, hq, .head h0 zCj (StepsIn.trans harr (.one (fenced_calm hb hr rfl) stepR_inScope))⟩
 | exit id =>
   have hx : exitTo id (.inScope c :: k) = exitTo id k := by simp [exitTo]
   exact ⟨.exit id, a₁, w₁, hq, fun k' hk => .head h0 zCj (harr.1 k' (by rw [hx]; exact hk)),
    fun hr' hk => let ⟨k₁, h1, h2⟩ := harr.2 hr' (by rw [hx]; exact hk); ⟨k₁, h1, .head h0 zCj h2⟩⟩
 | goto l => exact (hg _ _ _ hq).elim
 | ret => exact ⟨_, a₁, w₁, hq, .of_steps (.one h0 zCj) harr⟩
 | panic ch => exact ⟨_, a₁, w₁, hq, .of_steps (.one h0 zCj) harr⟩
 | outgrown => exact ⟨_, a₁, w₁, hq, .of_steps (.one h0 zCj) harr⟩
end
inductive RC where
 | skip
 | reg (ros : List RO)
 | regD (qs : List (RO × Bool)) (ros : List RO)
 | seq (a b : RC)
 | cond (c : Opd) (a b : RC)
 | block (id : Nat) (b : RC)
 | loop (b : RC)
 | scope (b : RC)
 | exit (id : Nat)
 | ret
 | rangeF (g : Opd) (ps : List Dst) (a b : RC)
 | bad
def zA7 (ops : List Oper) : List (List Nat) :=
 ops.foldl (fun acc o => acc ++ [(o.after.toList.filter (Region.binds .any)).flatMap fun e => e.on :: acc.getD e.on []]) []
def masks (ops : List Oper) : List Nat :=
 ops.foldl (fun acc o => acc ++ [o.after.toList.foldl (fun m e => if Region.binds .any e then m ||| ((1 <<< e.on) ||| acc.getD e.on 0) else m) 0]) []
def zCw (ops : Array Oper) (o : Oper) : List Nat := o.dst.toList ++ o.looksAt ops
def clash (ops : Array Oper) (x y : Oper) : Bool :=
 (match x.dst with | some d => (zCw ops y).contains d | none => false) || (match y.dst with | some d => (zCw ops x).contains d | none => false)
def drawOk (ops : Array Oper) (m : Nat) : Bool :=
 let bs := masks ops.toList
 (List.range ops.size).all fun j =>
  match ops[j]? with
  | some oj =>
    let b := bs.getD j 0
    oj.after.all (fun e => !Region.binds .any e || decide (e.on < j)) &&
    (b == 2 ^ j - 1 || (List.range j).all fun i =>
     match ops[i]? with
     | some oi => b.testBit i || (decide (j < m) && !clash ops oi oj)
     | none => false)
  | none => false
def zB9 (ops : Array Oper) : Nat :=
 let bs := masks ops.toList
 (List.range ops.size).foldl (fun m j => if bs.getD j 0 == 2 ^ j - 1 then m else j + 1) 0
def unord (bs : List Nat) (i j : Nat) : Bool := i != j && !((bs.getD j 0).testBit i) && !((bs.getD i 0).testBit j)
def zFu (bs : List Nat) (ros : List RO) (m j : Nat) : Bool :=
 match ros[j]? with
 | some o => if isEff o.oc then (List.range m).any (fun i => unord bs i j && (match ros[i]? with | some p => !zEj p.oc | none => true)) else true
 | none => true
def flags (ops : Array Oper) (ros : List RO) (m : Nat) : List (RO × Bool) :=
 let bs := masks ops.toList
 (ros.zip ((List.range m).map (zFu bs ros m))).take m
def zCg (C : Cfg) : List Nat → Option (List Dst)
 | [] => some []
 | t :: ts => match zB4 C (some t), zCg C ts with
   | some d, some ds => some (d :: ds)
   | _, _ => none
def zAe (C : Cfg) : Code → Option RC
 | .skip => some .skip
 | .label _ => some .skip
 | .region _ ops false => some (((zBh C ops (List.range ops.size)).map .reg).getD .bad)
 | .region _ ops true =>
   if drawOk ops (zB9 ops) && C.P.follows .mixedOrders then some (((zBh C ops (List.range ops.size)).map fun r => .regD (flags ops r (zB9 ops)) (r.drop (zB9 ops))).getD .bad) else some .bad
 | .seq a b =>
   match zAe C a, zAe C b with
   | some x, some y => some (.seq x y)
   | _, _ => none
 | .cond c a b =>
   match resO C c, zAe C a, zAe C b with
   | some g, some x, some y => some (.cond g x y)
   | _, _, _ => some .bad
 | .block id b => (zAe C b).map (.block id)
 | .loop b => (zAe C b).map .loop
 | .scope b => (zAe C b).map .scope
 | .exit id => some (.exit id)
 | .ret => some .ret
 | .rangeFunc g ps a b =>
   match resO C g, zCg C ps.toList, zAe C a, zAe C b with
   | some g, some ps, some x, some y => some (.rangeF g ps x y)
   | _, _, _, _ => some .bad
 | _ => some .bad
theorem zA8 {C : Cfg} {id : Nat} {ops : Array Oper} {d : Bool} {rc : RC} (h : zAe C (.region id ops d) = some rc) :
 (∃ r, rc = .reg r ∧ d = false ∧ zBh C ops (List.range ops.size) = some r) ∨
 (∃ r, rc = .regD (flags ops r (zB9 ops)) (r.drop (zB9 ops)) ∧ d = true ∧ drawOk ops (zB9 ops) = true ∧ C.P.follows .mixedOrders = true ∧ zBh C ops (List.range ops.size) = some r) ∨ rc = .bad := by
 cases d <;> simp only [zAe] at h
 ·cases hr : zBh C ops (List.range ops.size) with
  | none => simp [hr] at h; exact .inr (.inr h.symm)
  | some r => simp [hr] at h; exact .inl ⟨r, h.symm, rfl, rfl⟩
 ·split at h
  ·rename_i hB
   simp only [Bool.and_eq_true] at hB
   cases hr : zBh C ops (List.range ops.size) with
   | none => simp [hr] at h; exact .inr (.inr h.symm)
   | some r => simp [hr] at h; exact .inr (.inl ⟨r, h.symm, rfl, hB.1, hB.2, rfl⟩)
  ·simp at h; exact .inr (.inr h.symm)
inductive Ex where
 | normal
 | exit (id : Nat)
 | ret
def Lift (C : Cfg) (w0 : World) (B : Gh) (Q : Ex → St → Prop) : Exit → Act → World → Prop
 | .normal, a, w => ∃ s, Sim C w0 B s a w ∧ Q .normal s
 | .exit i, a, w => ∃ s, Sim C w0 B s a w ∧ Q (.exit i) s
 | .ret, a, w => ∃ s, Sim C w0 B s a w ∧ Q .ret s
 | .panic ch, a, w => a.defers = C.dfs ∧ PanPost C.M w0 B (.panicked ch) w
 | _, _, _ => False
theorem lift_pq {C : Cfg} {w0 : World} {B : Gh} {Q : Ex → St → Prop} : PQ C w0 B (Lift C w0 B Q) := fun _ _ _ h1 h2 => ⟨h1, h2⟩
def wpE (P : Program) (c : Code) (Q : Exit → Act → World → Prop) (a : Act) (w : World) : Prop := ∀ ro, c.wpIn (FR ro) 0 P Q a w
theorem wpE_mono {P : Program} {c : Code} {Q Q' : Exit → Act → World → Prop} {a : Act} {w : World} (h : wpE P c Q a w) (hq : ∀ e a w, Q e a w → Q' e a w) : wpE P c Q' a w := fun ro => wpIn_mono (h ro) hq
theorem wpE_seq {P : Program} {x y : Code} {Q : Exit → Act → World → Prop} {a : Act} {w : World} (h : wpE P x (Exit.then (wpE P y Q) Q) a w) : wpE P (.seq x y) Q a w :=
 fun ro => wpIn_seq (wpIn_mono (h ro) fun e a w hq => by cases e <;> simp only [Exit.then] at hq ⊢ <;> first | exact hq | exact hq ro)
theorem wpE_block {P : Program} {id : Nat} {c : Code} {Q : Exit → Act → World → Prop} {a : Act} {w : World} (h : wpE P c (Exit.inBlock id Q) a w) : wpE P (.block id c) Q a w := fun ro => wpIn_block (h ro)
theorem wpE_loop {P : Program} {c : Code} {Q : Exit → Act → World → Prop} {a : Act} {w : World} (I : Act → World → Prop) (μ : Act → World → Nat) (h₀ : I a w)
 (round : ∀ a w, I a w → wpE P c (Exit.then (fun a' w' => I a' w' ∧ μ a' w' < μ a w) Q) a w) : wpE P (.loop c) Q a w := fun ro => wpIn_loop I μ h₀ fun a w hI => round a w hI ro
structure SWp (C : Cfg) (rc : RC) (Q : Ex → St → Prop) (s : St) : Prop where
 run : ∀ c, zAe C c = some rc → ∀ w0 B, C.M.start w0 B → ∀ a w, Sim C w0 B s a w → wpE C.P c (Lift C w0 B Q) a w
def Weak (C : Cfg) (s s1 : St) : Prop := ∀ w0 B a w, Sim C w0 B s a w → Sim C w0 B s1 a w
section
variable {C : Cfg} {Q : Ex → St → Prop} {s : St}
theorem zAa : Weak C s s := fun _ _ _ _ h => h
theorem zCz {s1 s2 : St} (h : Weak C s s1) (g : Weak C s1 s2) : Weak C s s2 := fun _ _ _ _ q => g _ _ _ _ (h _ _ _ _ q)
theorem weak_done : Weak C s s.done := by
 intro w0 B a w h
 obtain ⟨G, g0, gb, g1, g2, g3, g4⟩ := h
 refine ⟨G, g0, gb, g1, g2, g3, fun t => ?_⟩
 have := g4 t
 unfold St.slot St.done at *
 split
 ·rename_i i hi; rw [hi] at this; exact this
 ·simp [lk, Rel]
def keepE (ks : List Nat) : Nat → List D → List D
 | _, [] => []
 | i, d :: ds => (if ks.contains i then d else .u0) :: keepE ks (i + 1) ds
theorem keepE_length (ks : List Nat) : ∀ (i : Nat) (l : List D), (keepE ks i l).length = l.length
 | _, [] => rfl
 | i, d :: ds => by simp [keepE, keepE_length ks (i + 1) ds]
theorem keepE_get (ks : List Nat) : ∀ (i j : Nat) (l : List D), (keepE ks i l).getD j .u0 = l.getD j .u0 ∨ (keepE ks i l).getD j .u0 = .u0
 | _, _, [] => by simp [keepE]
 | i, 0, d :: ds => by
   simp only [keepE, List.getD_cons_zero]
   split
   ·exact .inl rfl
   ·exact .inr rfl
 | i, j + 1, d :: ds => by simpa [keepE] using keepE_get ks (i + 1) j ds
theorem zB2 (ks : List Nat) : Weak C s { s with env := keepE ks 0 s.env } := by
 intro w0 B a w h
 obtain ⟨G, g0, gb, g1, g2, g3, g4⟩ := h
 refine ⟨G, g0, gb, g1, g2, by simpa [keepE_length] using g3, fun t => ?_⟩
 have := g4 t
 unfold St.slot at *
 split
 ·rename_i i hi
  rw [hi] at this
  rcases keepE_get ks 0 i s.env with e | e
  ·simp only [e]; exact this
  ·simp only [e]; simp [Rel]
 ·rename_i hi; rw [hi] at this; exact this
theorem zA1 {rc : RC} {s1 : St} (h : Weak C s s1) (g : SWp C rc Q s1) : SWp C rc Q s :=
 ⟨fun c hc w0 B hA a w hs => g.run c hc w0 B hA a w (h _ _ _ _ hs)⟩
theorem lift_mono {w0 B} {Q' : Ex → St → Prop} (h : ∀ e s, Q e s → ∃ s1, Weak C s s1 ∧ Q' e s1) (e : Exit) (a : Act) (w : World) (hl : Lift C w0 B Q e a w) : Lift C w0 B Q' e a w := by
 cases e <;> simp only [Lift] at hl ⊢ <;> try first | exact hl | (obtain ⟨s, h1, h2⟩ := hl; obtain ⟨s1, h3, h4⟩ := h _ _ h2; exact ⟨s1, h3 _ _ _ _ h1, h4⟩)
theorem swp_mono {rc : RC} {Q' : Ex → St → Prop} (h : SWp C rc Q s) (hq : ∀ e s, Q e s → ∃ s1, Weak C s s1 ∧ Q' e s1) : SWp C rc Q' s :=
 ⟨fun c hc w0 B hA a w hs => wpE_mono (h.run c hc w0 B hA a w hs) (lift_mono hq)⟩
theorem swp_skip (h : Q .normal s) : SWp C .skip Q s := by
 refine ⟨fun c hc w0 B hA a w hs => ?_⟩
 have hreg : ∀ id ops d, c = .region id ops d → _ := fun id ops d e => zA8 (e ▸ hc)
 cases c <;> (try simp only [zAe] at hc) <;> (try (cases hc; done))
 case skip => exact fun _ => wpIn_skip ⟨s, hs, h⟩
 case label => exact fun _ => wpIn_label ⟨s, hs, h⟩
 case region _ ops d => exfalso; have := hreg _ _ _ rfl; simp at this
 all_goals (repeat' split at hc) <;> simp_all
theorem swp_reg {ros : List RO} (h : opsWp C.M ros (fun s' => Q .normal s'.done) s) : SWp C (.reg ros) Q s := by
 refine ⟨fun c hc w0 B hA a w hs => ?_⟩
 have hreg : ∀ id ops d, c = .region id ops d → _ := fun id ops d e => zA8 (e ▸ hc)
 cases c <;> (try simp only [zAe] at hc) <;> (try (cases hc; done))
 case region _ ops d =>
  rcases hreg _ _ _ rfl with ⟨r, h1, rfl, hr⟩ | ⟨r, h1, _⟩ | h1
  ·cases h1
   refine fun ro => wpIn_region (ops_sound ⟨hA, lift_pq⟩ (K := fun s' => Q .normal s'.done) (fun s a w hk hs => ?_) _ _ s a w hr h hs)
   exact ⟨s.done, weak_done _ _ _ _ hs, hk⟩
  iterate 2
   ·cases h1
 all_goals exfalso; (repeat' split at hc) <;> simp_all
theorem swp_seq {x y : RC} (h : SWp C x (fun e s' => match e with | .normal => SWp C y Q s' | e => Q e s') s) : SWp C (.seq x y) Q s := by
 refine ⟨fun c hc w0 B hA a w hs => ?_⟩
 have hreg : ∀ id ops d, c = .region id ops d → _ := fun id ops d e => zA8 (e ▸ hc)
 cases c <;> (try simp only [zAe] at hc) <;> (try (cases hc; done))
 case seq ca cb =>
  cases ha : zAe C ca with
  | none => simp [ha] at hc
  | some p =>
    cases hb : zAe C cb with
    | none => simp [ha, hb] at hc
    | some q =>
      simp [ha, hb] at hc
      obtain ⟨rfl, rfl⟩ := hc
      refine wpE_seq (wpE_mono (h.run ca ha w0 B hA a w hs) fun e a' w' hl => ?_)
      cases e <;> simp only [Lift, Exit.then] at hl ⊢ <;> try exact hl
      obtain ⟨s', h1, h2⟩ := hl
      exact h2.run cb hb w0 B hA a' w' h1
 case region _ ops d => exfalso; have := hreg _ _ _ rfl; simp at this
 all_goals exfalso; (repeat' split at hc) <;> simp_all
theorem swp_cond {g : Opd} {x y : RC} {t : Bool} (hg : s.get g = .bool t) (h1 : t = true → SWp C x Q (s.setO g (.bool true))) (h2 : t = false → SWp C y Q (s.setO g (.bool false))) : SWp C (.cond g x y) Q s := by
 refine ⟨fun c hc w0 B hA a w hs => ?_⟩
 have hreg : ∀ id ops d, c = .region id ops d → _ := fun id ops d e => zA8 (e ▸ hc)
 cases c <;> (try simp only [zAe] at hc) <;> (try (cases hc; done))
 case cond co ca cb =>
  cases ho : resO C co with
  | none => simp [ho] at hc
  | some g' =>
    cases ha : zAe C ca with
    | none => simp [ho, ha] at hc
    | some p =>
      cases hb : zAe C cb with
      | none => simp [ho, ha, hb] at hc
      | some q =>
        simp [ho, ha, hb] at hc
        obtain ⟨rfl, rfl, rfl⟩ := hc
        have hs0 := hs
        obtain ⟨G, g0, gb, g1, g2, g3, g4⟩ := hs
        have hv := zGd g4 ho
        rw [hg] at hv; simp only [Rel] at hv
        have nar : Sim C w0 B (s.setO g' (.bool t)) a w := by
         cases co with
         | tmp u =>
           refine ⟨G, by rw [zD7]; exact g0, gb, g1, g2, by rw [zCn]; exact g3, fun u' => ?_⟩
           rw [zF8 (zEa ho).1 g3]
           split
           ·rename_i e; subst e
            simp only [Act.eval] at hv
            simp only [Rel]; exact hv
           ·exact g4 u'
         | const v =>
           simp only [resO] at ho
           cases hd : toD v with
           | none => simp [hd] at ho
           | some d => simp [hd] at ho; subst ho; simpa [St.setO] using hs0
         | global n => simp [resO] at ho
         | func f => simp [resO] at ho; subst ho; simpa [St.setO] using hs0
        refine fun ro => wpIn_cond_split hv (fun e => ?_) (fun e => ?_)
        ·subst e; exact (h1 rfl).run ca ha w0 B hA a w nar ro
        ·subst e; exact (h2 rfl).run cb hb w0 B hA a w nar ro
 case region _ ops d => exfalso; have := hreg _ _ _ rfl; simp at this
 all_goals exfalso; (repeat' split at hc) <;> simp_all
theorem zEk {id : Nat} {x : RC} (h : SWp C x (fun e s' => match e with | .exit i => if i = id then Q .normal s' else Q (.exit i) s' | e => Q e s') s) : SWp C (.block id x) Q s := by
 refine ⟨fun c hc w0 B hA a w hs => ?_⟩
 have hreg : ∀ id ops d, c = .region id ops d → _ := fun id ops d e => zA8 (e ▸ hc)
 cases c <;> (try simp only [zAe] at hc) <;> (try (cases hc; done))
 case block i cb =>
  cases hb : zAe C cb with
  | none => simp [hb] at hc
  | some q =>
    simp [hb] at hc
    obtain ⟨rfl, rfl⟩ := hc
    refine wpE_block (wpE_mono (h.run cb hb w0 B hA a w hs) fun e a' w' hl => ?_)
    cases e <;> simp only [Lift, Exit.inBlock] at hl ⊢ <;> try exact hl
    obtain ⟨s', h1, h2⟩ := hl
    split at h2
    ·rename_i e; rw [if_pos e]; exact ⟨s', h1, h2⟩
    ·rename_i e; rw [if_neg e]; exact ⟨s', h1, h2⟩
 case region _ ops d => exfalso; have := hreg _ _ _ rfl; simp at this
 all_goals exfalso; (repeat' split at hc) <;> simp_all
theorem swp_scope {x : RC} (h : SWp C x Q s) : SWp C (.scope x) Q s := by
 refine ⟨fun c hc w0 B hA a w hs => ?_⟩
 have hreg : ∀ id ops d, c = .region id ops d → _ := fun id ops d e => zA8 (e ▸ hc)
 cases c <;> (try simp only [zAe] at hc) <;> (try (cases hc; done))
 case scope cb =>
  cases hb : zAe C cb with
  | none => simp [hb] at hc
  | some q =>
    simp [hb] at hc
    subst hc
    exact fun ro => wpIn_scope (h.run cb hb w0 B hA a w hs ro) fun l a w hl => by simp [Lift] at hl
 case region _ ops d => exfalso; have := hreg _ _ _ rfl; simp at this
 all_goals exfalso; (repeat' split at hc) <;> simp_all
theorem swp_exit {id : Nat} (h : Q (.exit id) s) : SWp C (.exit id) Q s := by
 refine ⟨fun c hc w0 B hA a w hs => ?_⟩
 have hreg : ∀ id ops d, c = .region id ops d → _ := fun id ops d e => zA8 (e ▸ hc)
 cases c <;> (try simp only [zAe] at hc) <;> (try (cases hc; done))
 case exit i => simp at hc; subst hc; exact fun _ => wpIn_exit ⟨s, hs, h⟩
 case region _ ops d => exfalso; have := hreg _ _ _ rfl; simp at this
 all_goals exfalso; (repeat' split at hc) <;> simp_all
theorem swp_ret (h : Q .ret s) : SWp C .ret Q s := by
 refine ⟨fun c hc w0 B hA a w hs => ?_⟩
 have hreg : ∀ id ops d, c = .region id ops d → _ := fun id ops d e => zA8 (e ▸ hc)
 cases c <;> (try simp only [zAe] at hc) <;> (try (cases hc; done))
 case ret => exact fun _ => wpIn_ret ⟨s, hs, h⟩
 case region _ ops d => exfalso; have := hreg _ _ _ rfl; simp at this
 all_goals exfalso; (repeat' split at hc) <;> simp_all
theorem least (p : Nat → Prop) : ∀ n, p n → ∃ m, p m ∧ ∀ k, p k → m ≤ k := by
 intro n
 induction n using Nat.strongRecOn with
 | _ n ih =>
   intro hn
   by_cases h : ∃ k, k < n ∧ p k
   ·obtain ⟨k, hk, hp⟩ := h; exact ih k hk hp
   ·exact ⟨n, hn, fun k hk => Nat.le_of_not_lt fun hlt => h ⟨k, hlt, hk⟩⟩
theorem swp_loop {x : RC} (J : Nat → St → Prop) (n : Nat) (h0 : ∃ s1, Weak C s s1 ∧ J n s1)
 (round : ∀ n s, J n s → SWp C x (fun e s' => match e with | .normal => ∃ s1 m, Weak C s' s1 ∧ m < n ∧ J m s1 | e => Q e s') s) : SWp C (.loop x) Q s := by
 refine ⟨fun c hc w0 B hA a w hs => ?_⟩
 classical
 have hreg : ∀ id ops d, c = .region id ops d → _ := fun id ops d e => zA8 (e ▸ hc)
 cases c <;> (try simp only [zAe] at hc) <;> (try (cases hc; done))
 case loop cb =>
  cases hb : zAe C cb with
  | none => simp [hb] at hc
  | some q =>
    simp [hb] at hc; subst hc
    have hin : ∃ m, (fun n => ∃ s, J n s ∧ Sim C w0 B s a w) m := by
     obtain ⟨s1, g1, g2⟩ := h0
     exact ⟨n, s1, g2, g1 _ _ _ _ hs⟩
    have lst : ∀ (a : Act) (w : World), (∃ m, (fun n => ∃ s, J n s ∧ Sim C w0 B s a w) m) → ∃ m, (∃ s, J m s ∧ Sim C w0 B s a w) ∧ ∀ k, (∃ s, J k s ∧ Sim C w0 B s a w) → m ≤ k :=
     fun a w hm => let ⟨m, hp⟩ := hm; least _ m hp
    refine wpE_loop (fun a w => ∃ m, (fun n => ∃ s, J n s ∧ Sim C w0 B s a w) m)
     (fun a w => if h : ∃ m, (fun n => ∃ s, J n s ∧ Sim C w0 B s a w) m then Classical.choose (lst a w h) else 0) hin ?_
    intro a w hI
    obtain ⟨⟨s1, g1, g2⟩, g3⟩ := Classical.choose_spec (lst a w hI)
    rw [dif_pos hI]
    refine wpE_mono ((round _ s1 g1).run cb hb w0 B hA a w g2) fun e a' w' hl => ?_
    cases e <;> simp only [Lift, Exit.then] at hl ⊢ <;> try exact hl
    obtain ⟨s', h1, s2, m, h2, h3, h4⟩ := hl
    have hex : ∃ m, (fun n => ∃ s, J n s ∧ Sim C w0 B s a' w') m := ⟨m, s2, h4, h2 _ _ _ _ h1⟩
    refine ⟨hex, ?_⟩
    rw [dif_pos hex]
    exact Nat.lt_of_le_of_lt ((Classical.choose_spec (lst a' w' hex)).2 m ⟨s2, h4, h2 _ _ _ _ h1⟩) h3
 case region _ ops d => exfalso; have := hreg _ _ _ rfl; simp at this
 all_goals exfalso; (repeat' split at hc) <;> simp_all
end
end GoV
end
section
set_option linter.unusedSimpArgs false
set_option maxHeartbeats 1000000
namespace GoV
open Go
def CallQ (M : Mod) (ds : List D) (hp : Hp) (K : D → Prop) : Prop := ∃ d, CallOp M ds hp (fun d' hp' => d' = d ∧ hp' = hp) ∧ K d
def zAf (M : Mod) (oc : OC) (ds : List D) (hp : Hp) (K : D → Prop) : Prop :=
 if zAb oc = true then CallQ M (zDz M oc ds) hp K else opWp oc ds hp fun d hp' => hp' = hp ∧ K d
def multi : OC → Bool
 | .nxtM => true
 | .eqN _ _ => true
 | .pan => true
 | _ => false
def qOp : OC → OC
 | .nxtM => .bad
 | .eqN _ _ => .bad
 | .pan => .bad
 | oc => oc
theorem multi_nxt (h : multi .nxtM = false) : False := Bool.noConfusion h
theorem multi_eqN {neg : Bool} {k : NilK} (h : multi (.eqN neg k) = false) : False := Bool.noConfusion h
theorem multi_pan {oc : OC} (h : multi oc = false) : isPan oc = false := by cases oc <;> first | rfl | (simp [multi] at h; done) | (rename_i k; cases k <;> first | rfl | (simp [multi] at h; done))
theorem qOp_ne (oc : OC) : multi (qOp oc) = false := by cases oc <;> first | rfl | (rename_i k; cases k <;> rfl)
theorem qOp_eq {oc : OC} (h : multi oc = false) : qOp oc = oc := by cases oc <;> first | rfl | (simp [multi] at h; done) | (rename_i k; cases k <;> first | rfl | (simp [multi] at h; done))
theorem qOp_bad {oc : OC} (h : multi oc = true) : qOp oc = .bad := by cases oc <;> first | rfl | (simp [multi] at h; done) | (rename_i k; cases k <;> first | rfl | (simp [multi] at h; done))
def detWp (M : Mod) (oc : OC) (ds : List D) (hp : Hp) (K : D → Hp → Prop) : Prop := ∃ d hp', OcWp M oc ds hp (fun d' hp'' => d' = d ∧ hp'' = hp') ∧ K d hp'
def stepWp (M : Mod) (q : Bool) (oc : OC) (ds : List D) (hp : Hp) (K : D → Hp → Prop) : Prop :=
 if q = true then zAf M (qOp oc) ds hp fun d => K d hp else detWp M (qOp oc) ds hp K
def headQ (M : Mod) (q : Bool) (o : RO) (K : St → Prop) (s : St) : Prop :=
 match o.guard with
 | none => stepWp M q o.oc (o.args.map s.get) s.hp fun d hp => K ({ s with hp := hp }.put o.dst d)
 | some (g, want) =>
   match s.get g with
   | .bool b => (b = want → stepWp M q o.oc (o.args.map (s.setO g (.bool want)).get) s.hp fun d hp => K ({ s.setO g (.bool want) with hp := hp }.put o.dst d)) ∧
    (b = (!want) → K ((s.setO g (.bool (!want))).put o.dst .skip))
   | .skip => K (s.put o.dst .skip)
   | _ => False
def opsQ (M : Mod) : List (RO × Bool) → (St → Prop) → St → Prop
 | [], K, s => K s
 | (o, q) :: r, K, s => headQ M q o (opsQ M r K) s
theorem binWp_det {op : BinOp} {x y : D} {K : D → Prop} (h : binWp op x y K) : ∃ d, K d ∧ ∀ K' : D → Prop, K' d → binWp op x y K' := by
 unfold binWp at h
 split at h <;> first
  | exact h.elim
  | exact ⟨_, h, fun K' k => by simpa [binWp] using k⟩
  | (obtain ⟨h1, h⟩ := h; exact ⟨_, h, fun K' k => by simp only [binWp]; exact ⟨h1, k⟩⟩)
  | (obtain ⟨h1, h2, h⟩ := h; exact ⟨_, h, fun K' k => by simp only [binWp]; exact ⟨h1, h2, k⟩⟩)
theorem unWp_det {op : UnOp} {x : D} {K : D → Prop} (h : unWp op x K) : ∃ d, K d ∧ ∀ K' : D → Prop, K' d → unWp op x K' := by
 unfold unWp at h
 split at h <;> first
  | exact h.elim
  | exact ⟨_, h, fun K' k => by simpa [unWp] using k⟩
theorem appWp_det {k bytes : Nat} {e : TypeId} {x : D} {es : List D} {hp : Hp} {K : D → Hp → Prop} (h : appWp k bytes e x es hp K) : ∃ d hp', K d hp' ∧ ∀ K' : D → Hp → Prop, K' d hp' → appWp k bytes e x es hp K' := by
 unfold appWp at h
 obtain ⟨hK, h⟩ := h
 split at h
 ·obtain ⟨h1, (⟨h2, h | h⟩ | h)⟩ := h
  ·exact ⟨_, _, h, fun K' k => ⟨hK, h1, .inl ⟨h2, .inl k⟩⟩⟩
  ·exact ⟨_, _, h, fun K' k => ⟨hK, h1, .inl ⟨h2, .inr k⟩⟩⟩
  ·exact ⟨_, _, h, fun K' k => ⟨hK, h1, .inr k⟩⟩
 ·obtain ⟨h1, ⟨h2, h3, h4, h | h⟩ | ⟨h2, h3, t, h4, h⟩⟩ := h
  ·exact ⟨_, _, h, fun K' k => ⟨hK, h1, .inl ⟨h2, h3, h4, .inl k⟩⟩⟩
  ·exact ⟨_, _, h, fun K' k => ⟨hK, h1, .inl ⟨h2, h3, h4, .inr k⟩⟩⟩
  ·exact ⟨_, _, h, fun K' k => ⟨hK, h1, .inr ⟨h2, h3, t, h4, k⟩⟩⟩
 ·obtain ⟨h1, h2, h3, h⟩ := h
  exact ⟨_, _, h, fun K' k => ⟨hK, h1, h2, h3, k⟩⟩
 ·obtain ⟨h1, ⟨cs, h2, h3, h⟩ | ⟨bs, s', h2, h3, h4, h5, h⟩⟩ := h
  ·exact ⟨_, _, h, fun K' k => ⟨hK, h1, .inl ⟨cs, h2, h3, k⟩⟩⟩
  ·exact ⟨_, _, h, fun K' k => ⟨hK, h1, .inr ⟨bs, s', h2, h3, h4, h5, k⟩⟩⟩
 ·exact h.elim
theorem lkp_det {kd : MK} {ok : Bool} {zero k : D} {b : Nat} {hp : Hp} {K : D → Hp → Prop} (h : opWp (.lkp kd ok zero) [.mp b, k] hp K) : ∃ d hp', K d hp' ∧ ∀ K' : D → Hp → Prop, K' d hp' → opWp (.lkp kd ok zero) [.mp b, k] hp K' := by
 simp only [opWp] at h ⊢
 obtain ⟨es, clock, h1, h2, h3, h4, h5⟩ := h
 cases hfm : findM k es 0 with
 | none => exact ⟨_, _, h5 hfm, fun K' q => ⟨es, clock, h1, h2, h3, fun i v e => (by rw [hfm] at e; cases e), fun _ => q⟩⟩
 | some p => exact ⟨_, _, h4 p.1 p.2 hfm, fun K' q => ⟨es, clock, h1, h2, h3, fun i v e => (by rw [hfm] at e; cases e; exact q), fun e => (by rw [hfm] at e; cases e)⟩⟩
theorem cpy_det {k : Nat} {ds : List D} {hp : Hp} {K : D → Hp → Prop} (h : cpyWp k ds hp K) : ∃ d hp', K d hp' ∧ ∀ K' : D → Hp → Prop, K' d hp' → cpyWp k ds hp K' := by
 unfold cpyWp at h ⊢
 split at h
 ·obtain ⟨h1, cs, es, h2, h3, h4, h5, h6, h⟩ := h
  exact ⟨_, _, h, fun K' k => ⟨h1, cs, es, h2, h3, h4, h5, h6, k⟩⟩
 ·exact h.elim
theorem lenM_det {x : D} {hp : Hp} {K : D → Hp → Prop} (h : zEu x hp K) : ∃ d hp', K d hp' ∧ ∀ K' : D → Hp → Prop, K' d hp' → zEu x hp K' := by
 unfold zEu at h ⊢
 split at h
 ·exact ⟨_, _, h, fun K' k => k⟩
 ·obtain ⟨es, c, h1, h⟩ := h
  exact ⟨_, _, h, fun K' k => ⟨es, c, h1, k⟩⟩
 ·exact h.elim
theorem rngM_det {x : D} {hp : Hp} {K : D → Hp → Prop} (h : zEp x hp K) : ∃ d hp', K d hp' ∧ ∀ K' : D → Hp → Prop, K' d hp' → zEp x hp K' := by
 unfold zEp at h ⊢
 split at h
 ·exact ⟨_, _, h, fun K' k => k⟩
 ·obtain ⟨es, c, h1, h⟩ := h
  exact ⟨_, _, h, fun K' k => ⟨es, c, h1, k⟩⟩
 ·exact h.elim
theorem mm_det {mx : Bool} {ds : List D} {K : D → Prop} (h : mmWp mx ds K) : ∃ d, K d ∧ ∀ K' : D → Prop, K' d → mmWp mx ds K' := by
 unfold mmWp at h ⊢
 split at h
 ·obtain ⟨m, h1, h⟩ := h
  exact ⟨_, h, fun K' k => ⟨m, h1, k⟩⟩
 ·exact ⟨_, h, fun K' k => k⟩
 ·exact h.elim
theorem opWp_det {oc : OC} {ds : List D} {hp : Hp} {K : D → Hp → Prop} (hn : multi oc = false) (h : opWp oc ds hp K) : ∃ d hp', K d hp' ∧ ∀ K' : D → Hp → Prop, K' d hp' → opWp oc ds hp K' := by
 unfold opWp at h
 split at h
 case h_3 =>
  rename_i t a b
  cases t
  ·exact ⟨_, _, h.2 rfl, fun K' k => by simp only [opWp]; exact ⟨fun e => Bool.noConfusion e, fun _ => k⟩⟩
  ·exact ⟨_, _, h.1 rfl, fun K' k => by simp only [opWp]; exact ⟨fun _ => k, fun e => Bool.noConfusion e⟩⟩
 all_goals first
  | exact h.elim
  | exact (multi_nxt hn).elim
  | exact (multi_eqN hn).elim
  | exact ⟨_, _, h, fun K' k => by simpa [opWp] using k⟩
  | exact lkp_det h
  | (obtain ⟨d, hp', h1, h2⟩ := lenM_det h; exact ⟨d, hp', h1, fun K' k => by simp only [opWp]; exact h2 _ k⟩)
  | (obtain ⟨d, hp', h1, h2⟩ := rngM_det h; exact ⟨d, hp', h1, fun K' k => by simp only [opWp]; exact h2 _ k⟩)
  | (obtain ⟨d, h1, h2⟩ := mm_det h; exact ⟨d, hp, h1, fun K' k => by simp only [opWp]; exact h2 _ k⟩)
  | (obtain ⟨d, hp', h1, h2⟩ := cpy_det h; exact ⟨d, hp', h1, fun K' k => by simp only [opWp]; exact h2 _ k⟩)
  | (obtain ⟨m, since, seen, es, clock, n, k1, v, h1, h2, h3, h4, h⟩ := h; exact ⟨_, _, h, fun K' k => by simp only [opWp]; exact ⟨m, since, seen, es, clock, n, k1, v, h1, h2, h3, h4, k⟩⟩)
  | (obtain ⟨d, h1, h2⟩ := binWp_det h; exact ⟨d, hp, h1, fun K' k => by simp only [opWp]; exact h2 _ k⟩)
  | (obtain ⟨d, h1, h2⟩ := unWp_det h; exact ⟨d, hp, h1, fun K' k => by simp only [opWp]; exact h2 _ k⟩)
  | (obtain ⟨es, h0, h⟩ := h; obtain ⟨d, hp', h1, h2⟩ := appWp_det h; exact ⟨d, hp', h1, fun K' k => by simp only [opWp]; exact ⟨es, h0, h2 _ k⟩⟩)
  | (obtain ⟨h1, h⟩ := h; exact ⟨_, _, h, fun K' k => by simp only [opWp]; exact ⟨h1, k⟩⟩)
  | (obtain ⟨h1, h2, h⟩ := h; exact ⟨_, _, h, fun K' k => by simp only [opWp]; exact ⟨h1, h2, k⟩⟩)
  | (obtain ⟨h1, h2, h3, h⟩ := h; exact ⟨_, _, h, fun K' k => by simp only [opWp]; exact ⟨h1, h2, h3, k⟩⟩)
  | (obtain ⟨h1, h2, h3, h4, h⟩ := h; exact ⟨_, _, h, fun K' k => by simp only [opWp]; exact ⟨h1, h2, h3, h4, k⟩⟩)
  | (obtain ⟨x, h1, h⟩ := h; exact ⟨_, _, h, fun K' k => by simp only [opWp]; exact ⟨x, h1, k⟩⟩)
  | (obtain ⟨x, h1, h2, h⟩ := h; exact ⟨_, _, h, fun K' k => by simp only [opWp]; exact ⟨x, h1, h2, k⟩⟩)
  | (obtain ⟨x, h1, h2, h3, h4, h⟩ := h; exact ⟨_, _, h, fun K' k => by simp only [opWp]; exact ⟨x, h1, h2, h3, h4, k⟩⟩)
  | (obtain ⟨h1, x, h2, h⟩ := h; exact ⟨_, _, h, fun K' k => by simp only [opWp]; exact ⟨h1, x, h2, k⟩⟩)
  | (obtain ⟨k1, cs, h1, h2, h3, h⟩ := h; exact ⟨_, _, h, fun K' k => by simp only [opWp]; exact ⟨k1, cs, h1, h2, h3, k⟩⟩)
  | (obtain ⟨k1, cs, h1, h2, h3, h4, h5, h⟩ := h; exact ⟨_, _, h, fun K' k => by simp only [opWp]; exact ⟨k1, cs, h1, h2, h3, h4, h5, k⟩⟩)
  | (obtain ⟨l, r, h1, h2, h3, h4, h⟩ := h; exact ⟨_, _, h, fun K' k => by simp only [opWp]; exact ⟨l, r, h1, h2, h3, h4, k⟩⟩)
  | (obtain ⟨h1, es, s, h2, h3, h⟩ := h; exact ⟨_, _, h, fun K' k => by simp only [opWp]; exact ⟨h1, es, s, h2, h3, k⟩⟩)
  | (obtain ⟨h1, h2, (⟨h3, h⟩ | h)⟩ := h
     ·exact ⟨_, _, h, fun K' k => by simp only [opWp]; exact ⟨h1, h2, .inl ⟨h3, k⟩⟩⟩
     ·exact ⟨_, _, h, fun K' k => by simp only [opWp]; exact ⟨h1, h2, .inr k⟩⟩)
  | (obtain ⟨h1, h2, h3, (h | ⟨h4, h5, (h | h)⟩)⟩ := h
     ·exact ⟨_, _, h, fun K' k => by simp only [opWp]; exact ⟨h1, h2, h3, .inl k⟩⟩
     ·exact ⟨_, _, h, fun K' k => by simp only [opWp]; exact ⟨h1, h2, h3, .inr ⟨h4, h5, .inl k⟩⟩⟩
     ·exact ⟨_, _, h, fun K' k => by simp only [opWp]; exact ⟨h1, h2, h3, .inr ⟨h4, h5, .inr k⟩⟩⟩)
  | (obtain ⟨s, p, h1, h2, h3⟩ := h
     by_cases hp' : p < s.length
     ·exact ⟨_, _, h2 hp', fun K' k => by simp only [opWp]; exact ⟨s, p, h1, fun _ => k, fun q => absurd hp' (by omega)⟩⟩
     ·exact ⟨_, _, h3 (by omega), fun K' k => by simp only [opWp]; exact ⟨s, p, h1, fun q => absurd q hp', fun _ => k⟩⟩)
  | (obtain ⟨l, r, m, h1, h2, h3, h4, h5, h⟩ := h
     split at h
     ·exact ⟨_, _, h.2, fun K' k => by simp only [opWp]; exact ⟨l, r, m, h1, h2, h3, h4, h5, h.1, k⟩⟩
     ·exact h.elim)
  | (obtain ⟨l, r, h1, h2, h3, h4, h⟩ := h
     split at h
     ·exact ⟨_, _, h.2, fun K' k => by simp only [opWp]; exact ⟨l, r, h1, h2, h3, h4, h.1, k⟩⟩
     ·exact ⟨_, _, h, fun K' k => by simp only [opWp]; exact ⟨l, r, h1, h2, h3, h4, k⟩⟩
     ·exact ⟨_, _, h.2.2, fun K' k => by simp only [opWp]; exact ⟨l, r, h1, h2, h3, h4, h.1, h.2.1, k⟩⟩
     ·exact h.elim)
theorem quiet_det {M : Mod} {oc : OC} {ds : List D} {hp : Hp} {K : D → Prop} (hn : multi oc = false) (h : zAf M oc ds hp K) : ∃ d, OcWp M oc ds hp (fun d' hp' => d' = d ∧ hp' = hp) ∧ K d := by
 unfold zAf at h
 unfold OcWp
 cases hc : zAb oc <;> simp only [hc, multi_pan hn, if_true, if_false, Bool.false_eq_true] at h ⊢
 ·obtain ⟨d, hp', ⟨rfl, h1⟩, h2⟩ := opWp_det hn h
  exact ⟨d, h2 _ ⟨rfl, rfl⟩, h1⟩
 ·exact h
theorem step_det {M : Mod} {q : Bool} {oc : OC} {ds : List D} {hp : Hp} {K : D → Hp → Prop} (h : stepWp M q oc ds hp K) : ∃ d hp', OcWp M oc ds hp (fun d' hp'' => d' = d ∧ hp'' = hp') ∧ (q = true → hp' = hp) ∧ K d hp' := by
 unfold stepWp at h
 cases hn : multi oc
 rotate_left
 ·exfalso
  rw [qOp_bad hn] at h
  cases q <;> simp only [if_true, if_false, Bool.false_eq_true] at h
  ·obtain ⟨d, hp', h1, h2⟩ := h
   simp [OcWp, zAb, isPan, opWp] at h1
  ·obtain ⟨d, h1, h2⟩ := quiet_det (by rfl) h
   simp [OcWp, zAb, isPan, opWp] at h1
 rw [qOp_eq hn] at h
 cases q <;> simp only [if_true, if_false, Bool.false_eq_true] at h
 ·obtain ⟨d, hp', h1, h2⟩ := h
  exact ⟨d, hp', h1, fun e => Bool.noConfusion e, h2⟩
 ·obtain ⟨d, h1, h2⟩ := quiet_det hn h
  exact ⟨d, hp, h1, fun _ => rfl, h2⟩
theorem free_any {M : Mod} {oc : OC} {ds : List D} {hp hp1 hp2 : Hp} {d : D} (hf : zEj oc = true) (h : OcWp M oc ds hp (fun d' hp' => d' = d ∧ hp' = hp1)) : OcWp M oc ds hp2 (fun d' hp' => d' = d ∧ hp' = hp2) := by
 have hc : zAb oc = false := by cases oc <;> first | rfl | simp [zEj] at hf
 have hpn : isPan oc = false := by cases oc <;> first | rfl | simp [zEj] at hf
 simp only [OcWp, hc, hpn, Bool.false_eq_true, if_false] at h ⊢
 have hb : ∀ {op x y}, binWp op x y (fun d' => d' = d ∧ hp = hp1) → binWp op x y (fun d' => d' = d ∧ hp2 = hp2) := by
  intro op x y h
  obtain ⟨d', ⟨rfl, _⟩, h2⟩ := binWp_det h
  exact h2 _ ⟨rfl, by trivial⟩
 have hu : ∀ {op x}, unWp op x (fun d' => d' = d ∧ hp = hp1) → unWp op x (fun d' => d' = d ∧ hp2 = hp2) := by
  intro op x h
  obtain ⟨d', ⟨rfl, _⟩, h2⟩ := unWp_det h
  exact h2 _ ⟨rfl, by trivial⟩
 unfold opWp at h
 split at h <;> first
  | exact h.elim
  | (simp [zEj] at hf; done)
  | skip
 all_goals simp only [opWp]
 all_goals first
  | (obtain ⟨d', ⟨rfl, _⟩, h2⟩ := binWp_det h; exact h2 _ ⟨rfl, by trivial⟩)
  | (obtain ⟨d', ⟨rfl, _⟩, h2⟩ := unWp_det h; exact h2 _ ⟨rfl, by trivial⟩)
  | (obtain ⟨d', ⟨rfl, _⟩, h2⟩ := mm_det h; exact h2 _ ⟨rfl, by trivial⟩)
  | (obtain ⟨rfl, _⟩ := h; exact ⟨rfl, by trivial⟩)
  | (obtain ⟨h1, rfl, _⟩ := h; exact ⟨h1, rfl, by trivial⟩)
  | (obtain ⟨h1, h2, rfl, _⟩ := h; exact ⟨h1, h2, rfl, by trivial⟩)
  | (obtain ⟨h1, h2, h3, rfl, _⟩ := h; exact ⟨h1, h2, h3, rfl, by trivial⟩)
  | (obtain ⟨h1, h2, h3, h4, rfl, _⟩ := h; exact ⟨h1, h2, h3, h4, rfl, by trivial⟩)
  | (obtain ⟨x, h1, rfl, _⟩ := h; exact ⟨x, h1, rfl, by trivial⟩)
  | (obtain ⟨h1, x, h2, rfl, _⟩ := h; exact ⟨h1, x, h2, rfl, by trivial⟩)
  | exact ⟨fun e => ⟨(h.1 e).1, by trivial⟩, fun e => ⟨(h.2 e).1, by trivial⟩⟩
  | (obtain ⟨l, r, m, h1, h2, h3, h4, h5, h⟩ := h
     refine ⟨l, r, m, h1, h2, h3, h4, h5, ?_⟩
     split at h
     ·exact ⟨h.1, h.2.1, by trivial⟩
     ·exact h.elim)
  | (obtain ⟨l, r, h1, h2, h3, h4, h⟩ := h
     refine ⟨l, r, h1, h2, h3, h4, ?_⟩
     split at h
     ·exact ⟨h.1, h.2.1, by trivial⟩
     ·exact ⟨h.1, by trivial⟩
     ·exact ⟨h.1, h.2.1, h.2.2.1, by trivial⟩
     ·exact h.elim)
  | (obtain ⟨l, r, h1, h2, h3, h4, h, _⟩ := h; exact ⟨l, r, h1, h2, h3, h4, h, by trivial⟩)
theorem det_op {M : Mod} {oc : OC} {ds : List D} {hp : Hp} {K : D → Hp → Prop} (hn : multi oc = false) (hc : zAb oc = false) : detWp M oc ds hp K = OcWp M oc ds hp K := by
 unfold detWp OcWp
 simp only [hc, multi_pan hn, Bool.false_eq_true, if_false]
 refine propext ⟨fun h => ?_, fun h => ?_⟩
 ·obtain ⟨d, hp', h1, h2⟩ := h
  obtain ⟨d1, hp1, ⟨rfl, rfl⟩, h3⟩ := opWp_det hn h1
  exact h3 _ h2
 ·obtain ⟨d, hp', h1, h2⟩ := opWp_det hn h
  exact ⟨d, hp', h2 _ ⟨rfl, rfl⟩, h1⟩
theorem resolve_sub {P : Program} {op : Op} {oc : OC} {xs : List Operand} (h : zAy P op = some (oc, xs)) : ∀ x ∈ xs, x ∈ op.operands := by
 cases op <;> simp only [zAy] at h <;> try (cases h; done)
 case call c =>
  simp only [zFt] at h
  cases hc : c.callee with
  | value f => simp [hc] at h; obtain ⟨rfl, rfl⟩ := h; intro x hx; simp [Op.operands, Call.operands, hc] at hx ⊢; exact hx
  | invoke r m => simp [hc] at h; obtain ⟨rfl, rfl⟩ := h; intro x hx; simp [Op.operands, Call.operands, hc] at hx ⊢; exact hx
  | builtin b =>
    have key : ∀ l : List Operand, c.args.toList = l → ∀ x ∈ l, x ∈ (Op.call c).operands := by
     rintro l rfl x hx; simpa [Op.operands, Call.operands, hc] using hx
    cases b <;> simp only [hc] at h <;> try (cases h; done)
    case len =>
     split at h
     case h_2 => cases h
     rename_i t y ht hy
     (repeat' split at h) <;> simp at h <;> obtain ⟨rfl, rfl⟩ := h <;> exact key _ hy
    case append =>
     split at h
     case h_2 => cases h
     rename_i t u y z ht hy
     simp only [Option.map_eq_some_iff, Prod.mk.injEq] at h
     obtain ⟨p, _, _, rfl⟩ := h
     exact key _ hy
    case delete =>
     split at h
     case h_2 => cases h
     rename_i t y z ht hy
     simp only [Option.map_eq_some_iff, Prod.mk.injEq] at h
     obtain ⟨p, _, _, rfl⟩ := h
     exact key _ hy
    case copy =>
     split at h
     case h_2 => cases h
     rename_i t y z ht hy
     split at h
     case h_2 => cases h
     simp only [Option.map_eq_some_iff, Prod.mk.injEq] at h
     obtain ⟨p, _, _, rfl⟩ := h
     exact key _ hy
    all_goals simp at h; obtain ⟨rfl, rfl⟩ := h; exact key _ rfl
 case binOp op t x y u =>
  have hx : xs = [x, y] := by
   unfold resBin resEqI at h
   (repeat' split at h) <;> simp_all
  subst hx; intro z hz; simpa [Op.operands] using hz
 case slice t x lo hi mx =>
  have hx : xs = x :: (lo.toList ++ hi.toList) ∨ ∃ l h m, lo = some l ∧ hi = some h ∧ mx = some m ∧ xs = [x, l, h, m] := by
   split at h
   ·simp only [Option.map_eq_some_iff, Prod.mk.injEq] at h; obtain ⟨_, _, _, rfl⟩ := h; exact .inl rfl
   ·split at h
    ·simp only [Option.map_eq_some_iff, Prod.mk.injEq] at h; obtain ⟨_, _, _, rfl⟩ := h; exact .inr ⟨_, _, _, rfl, rfl, rfl, rfl⟩
    ·cases h
  rcases hx with hx | ⟨l, h', m, rfl, rfl, rfl, hx⟩
  ·subst hx; intro z hz; simp [Op.operands] at hz ⊢
   rcases hz with h | h | h
   ·exact .inl h
   ·exact .inr (.inl h)
   ·exact .inr (.inr (.inl h))
  ·subst hx; intro z hz; simp [Op.operands] at hz ⊢
   exact hz
 case build t parts =>
  have hx : xs = parts.toList.map (·.2) := by
   (repeat' split at h) <;> simp_all [Option.map_eq_some_iff] <;> (obtain ⟨_, _, _, rfl⟩ := h; rfl)
  subst hx; intro z hz; simpa [Op.operands] using hz
 case buildSlice t len parts =>
  simp only [Option.map_eq_some_iff, Prod.mk.injEq] at h; obtain ⟨_, _, _, rfl⟩ := h
  intro z hz; simpa [Op.operands] using hz
 case makeSlice t l c =>
  simp only [Option.map_eq_some_iff, Prod.mk.injEq] at h; obtain ⟨_, _, _, rfl⟩ := h
  intro z hz; simpa [Op.operands] using hz
 case convert s t x =>
  simp only [Option.map_eq_some_iff, Prod.mk.injEq] at h; obtain ⟨_, _, _, rfl⟩ := h
  intro z hz; simpa [Op.operands] using hz
 case next it b =>
  cases b <;> simp at h <;> obtain ⟨rfl, rfl⟩ := h <;> (intro z hz; simpa [Op.operands] using hz)
 case makeMap t rs =>
  cases rs with
  | some x => simp at h
  | none =>
    simp only [Option.map_eq_some_iff, Prod.mk.injEq] at h
    obtain ⟨p, _, _, rfl⟩ := h
    intro z hz; simp at hz
 case mapUpdate t m k v =>
  simp only [Option.map_eq_some_iff, Prod.mk.injEq] at h
  obtain ⟨p, _, _, rfl⟩ := h
  intro z hz; simpa [Op.operands] using hz
 case insert t m k v =>
  simp only [Option.map_eq_some_iff, Prod.mk.injEq] at h
  obtain ⟨p, _, _, rfl⟩ := h
  intro z hz; simpa [Op.operands] using hz
 case lookup t m k ok =>
  cases hm : mkOf P t with
  | none => simp [hm] at h
  | some p =>
    simp only [hm, Option.map_eq_some_iff, Prod.mk.injEq] at h
    obtain ⟨_, _, _, rfl⟩ := h
    intro z hz; simpa [Op.operands] using hz
 case makeFunc f first cap =>
  simp at h; obtain ⟨rfl, rfl⟩ := h; intro z hz; simpa [Op.operands] using hz
 all_goals (repeat' split at h) <;> simp_all [Op.operands, Option.map_eq_some_iff]
 all_goals (obtain ⟨_, _, _, h⟩ := h; subst h; simp)
def evO (σ : Nat → D) : Operand → D
 | .tmp t => σ t
 | .const v => (toD v).getD .u0
 | .func f => .fn (.func f) [] []
 | .global _ => .u0
def updO (σ : Nat → D) (dst : Option Nat) (d : D) : Nat → D :=
 match dst with
 | none => σ
 | some t => fun u => if t = u then d else σ u
def SimF (C : Cfg) (w0 : World) (B : Gh) (σ : Nat → D) (hp : Hp) (a : Act) (w : World) : Prop :=
 ∃ G, Inv w0 B hp w G ∧ (B.r.length = C.n0 ∧ B.tk.length = C.m0) ∧ a.tmps.size = C.nt ∧ a.defers = C.dfs ∧ ∀ t, Rel w G (σ t) (a.tmps.getD t Go.undef)
def StepQ (C : Cfg) (ops : Array Oper) (hp hp1 : Hp) (σ : Nat → D) (o : Oper) (d : D) : Prop :=
 ∃ oc xs, zAy C.P o.op = some (oc, xs) ∧ (∃ ys, resOs C xs = some ys) ∧ (∃ ds, zB4 C o.dst = some ds) ∧
  ((o.guard = none ∧ OcWp C.M oc (xs.map (evO σ)) hp (fun d' hp' => d' = d ∧ hp' = hp1)) ∨
   ∃ j want t, o.guard = some (j, want) ∧ (ops[j]?).bind (·.dst) = some t ∧ t < C.nt ∧
    ((σ t = .bool want ∧ OcWp C.M oc (xs.map (evO σ)) hp (fun d' hp' => d' = d ∧ hp' = hp1)) ∨ (σ t = .bool (!want) ∧ d = .skip ∧ hp1 = hp) ∨ (σ t = .skip ∧ d = .skip ∧ hp1 = hp)))
section
variable {C : Cfg} {w0 : World} {B : Gh}
theorem get_evO {s : St} {x : Operand} {y : Opd} (h : resO C x = some y) : s.get y = evO (s.slot C.pers) x := by
 cases x with
 | tmp t => rw [zGk h]; rfl
 | const v =>
   simp only [resO] at h
   cases hv : toD v with
   | none => simp [hv] at h
   | some d => simp [hv] at h; subst h; simp [St.get, evO, hv]
 | global g => simp [resO] at h
 | func f => simp [resO] at h; subst h; rfl
theorem map_evO {s : St} : ∀ {xs : List Operand} {ys : List Opd}, resOs C xs = some ys → ys.map s.get = xs.map (evO (s.slot C.pers))
 | [], ys, h => by simp [resOs] at h; subst h; rfl
 | x :: xs, ys, h => by
   simp only [resOs] at h
   cases h1 : resO C x with
   | none => simp [h1] at h
   | some y =>
     cases h2 : resOs C xs with
     | none => simp [h1, h2] at h
     | some zs => simp [h1, h2] at h; subst h; simp [get_evO h1, map_evO h2]
theorem zDg {s : St} {dst : Option Nat} {ds : Dst} (h : zB4 C dst = some ds) (hl : s.env.length = C.pers.length) (d : D) : (s.put ds d).slot C.pers = updO (s.slot C.pers) dst d := by
 cases dst with
 | none => simp [zB4] at h; subst h; rfl
 | some t =>
   simp only [zB4] at h
   split at h
   case isFalse => cases h
   have hg : (match idx t C.pers with | some i => (match ds with | .v i => Opd.v i | .l t => Opd.l t | .none => Opd.l t) = .v i | none => (match ds with | .v i => Opd.v i | .l t => Opd.l t | .none => Opd.l t) = .l t) := by
    split at h
    ·rename_i i hi; (try rw [hi]); simp at h; subst h; rfl
    ·rename_i hi; (try rw [hi]); simp at h; subst h; rfl
   funext u
   have := zF8 (s := s) hg hl d u
   rw [show updO (s.slot C.pers) (some t) d u = if t = u then d else s.slot C.pers u from rfl, ← this]
   split at h
   ·rename_i i hi; simp at h; subst h; simp [St.slot, St.put, St.setO]
   ·rename_i hi; simp at h; subst h
    cases hj : idx u C.pers with
    | none => simp [St.slot, St.put, St.setO, hj, lk_setK, lk]
    | some j => simp [St.slot, St.put, St.setO, hj]
theorem zDu {s : St} {t : Nat} {g : Opd} (h : resO C (.tmp t) = some g) (hl : s.env.length = C.pers.length) {d : D} (hd : s.get g = d) : (s.setO g d).slot C.pers = s.slot C.pers := by
 funext u
 rw [zF8 (zEa h).1 hl]
 split
 ·rename_i e; subst e; rw [← hd, zGk h]
 ·rfl
theorem headQ_step {ops : Array Oper} {o : Oper} {x : RO} {q : Bool} {K : St → Prop} {s : St} (h1 : zC3 C ops o = some x) (hl : s.env.length = C.pers.length) (h : headQ C.M q x K s) :
 ∃ d s1, K s1 ∧ (q = true → s1.hp = s.hp) ∧ s1.env.length = C.pers.length ∧ StepQ C ops s.hp s1.hp (s.slot C.pers) o d ∧ s1.slot C.pers = updO (s.slot C.pers) o.dst d := by
 unfold zC3 at h1
 cases hres : zAy C.P o.op with
 | none => simp [hres] at h1
 | some p =>
   obtain ⟨oc, ys⟩ := p
   cases ha : resOs C ys with
   | none => simp [hres, ha] at h1
   | some args =>
     cases hd : zB4 C o.dst with
     | none => simp [hres, ha, hd] at h1
     | some dst =>
       cases hg : zB0 C ops o.guard with
       | none => simp [hres, ha, hd, hg] at h1
       | some guard =>
         simp [hres, ha, hd, hg] at h1; subst h1
         have slot_hp : ∀ (s : St) (hp : Hp), St.slot { s with hp := hp } C.pers = s.slot C.pers := fun s hp => rfl
         cases hog : o.guard with
         | none =>
           simp [hog, zB0] at hg; subst hg
           simp only [headQ] at h
           obtain ⟨d, hp', h2, hq, h3⟩ := step_det h
           rw [map_evO ha] at h2
           refine ⟨d, _, h3, fun e => by rw [zDh]; exact hq e, by rw [zBg]; exact hl, ⟨oc, ys, hres, ⟨_, ha⟩, ⟨_, hd⟩, .inl ⟨hog, by rw [zDh]; exact h2⟩⟩, ?_⟩
           rw [zDg hd (by exact hl), slot_hp]
         | some p =>
           obtain ⟨j, want⟩ := p
           simp only [hog, zB0] at hg
           cases hj : (ops[j]?).bind (·.dst) with
           | none => simp [hj] at hg
           | some t =>
             simp only [hj] at hg
             cases hgo : resO C (.tmp t) with
             | none => simp [hgo] at hg
             | some g =>
               simp [hgo] at hg; subst hg
               have htn := (zEa hgo).2
               simp only [headQ] at h
               have hsl : s.slot C.pers t = s.get g := (zGk hgo).symm
               cases hb : s.get g <;> simp only [hb] at h
               case bool b =>
                by_cases e : b = want
                ·subst e
                 obtain ⟨d, hp', h2, hq, h3⟩ := step_det (h.1 rfl)
                 rw [map_evO ha, zDu hgo hl hb] at h2
                 refine ⟨d, _, h3, fun e => by rw [zDh]; exact hq e, by rw [zBg]; simpa [zCn] using hl, ⟨oc, ys, hres, ⟨_, ha⟩, ⟨_, hd⟩, .inr ⟨j, b, t, hog, hj, htn, .inl ⟨by rw [hsl, hb], by rw [zDh]; exact h2⟩⟩⟩, ?_⟩
                 rw [zDg hd (by simpa [zCn] using hl), slot_hp, zDu hgo hl hb]
                ·have e' : b = (!want) := by cases b <;> cases want <;> simp_all
                 subst e'
                 refine ⟨.skip, _, h.2 rfl, fun _ => by rw [zDh, zD7], by rw [zBg, zCn]; exact hl, ⟨oc, ys, hres, ⟨_, ha⟩, ⟨_, hd⟩, .inr ⟨j, want, t, hog, hj, htn, .inr (.inl ⟨by rw [hsl, hb], rfl, by rw [zDh, zD7]⟩)⟩⟩, ?_⟩
                 rw [zDg hd (by rw [zCn]; exact hl), zDu hgo hl hb]
               case skip =>
                exact ⟨.skip, _, h, fun _ => zDh _ _ _, by rw [zBg]; exact hl, ⟨oc, ys, hres, ⟨_, ha⟩, ⟨_, hd⟩, .inr ⟨j, want, t, hog, hj, htn, .inr (.inr ⟨by rw [hsl, hb], rfl, by rw [zDh]⟩)⟩⟩, zDg hd hl _⟩
theorem opsQ_trace {ops : Array Oper} {K : St → Prop} : ∀ (len k : Nat) (ros : List RO) (qs : List (RO × Bool)) (s : St), zBh C ops (List.range' k len) = some ros → qs.map (·.1) = ros → s.env.length = C.pers.length → opsQ C.M qs K s →
 ∃ (ds : Nat → D) (σ : Nat → Nat → D) (hps : Nat → Hp) (s1 : St), K s1 ∧ hps k = s.hp ∧ hps (k + len) = s1.hp ∧ s1.env.length = C.pers.length ∧ σ k = s.slot C.pers ∧ σ (k + len) = s1.slot C.pers ∧
  ∀ i, k ≤ i → i < k + len → ∃ o q, ops[i]? = some o ∧ (qs[i - k]?).map (·.2) = some q ∧ (q = true → hps (i + 1) = hps i) ∧ StepQ C ops (hps i) (hps (i + 1)) (σ i) o (ds i) ∧ σ (i + 1) = updO (σ i) o.dst (ds i)
 | 0, k, ros, qs, s, hr, hqs, hl, h => by
   simp [zBh] at hr; subst hr
   have : qs = [] := by simpa using hqs
   subst this
   exact ⟨fun _ => .u0, fun _ => s.slot C.pers, fun _ => s.hp, s, h, rfl, rfl, hl, rfl, rfl, fun i h1 h2 => by omega⟩
 | len + 1, k, ros, qs, s, hr, hqs, hl, h => by
   rw [List.range'_succ] at hr
   obtain ⟨o, x, xs, ho, h1, h2, rfl⟩ := zCk hr
   cases qs with
   | nil => simp at hqs
   | cons p qs =>
     obtain ⟨x', q⟩ := p
     simp only [List.map_cons, List.cons.injEq] at hqs
     obtain ⟨rfl, hqs⟩ := hqs
     obtain ⟨d, s1, k1, k2, k3, k4, k5⟩ := headQ_step h1 hl h
     obtain ⟨ds, σ, hps, s2, g1, g2, g2', g3, g4, g5, g6⟩ := opsQ_trace len (k + 1) xs qs s1 h2 hqs k3 k1
     refine ⟨fun i => if i = k then d else ds i, fun i => if i = k then s.slot C.pers else σ i, fun i => if i = k then s.hp else hps i, s2, g1, by simp, ?_, g3, by simp, ?_, fun i h1 h2 => ?_⟩
     ·have : k + (len + 1) ≠ k := by omega
      simp only [this, if_false]
      rw [← g2']; congr 1; omega
     ·have : k + (len + 1) ≠ k := by omega
      simp only [this, if_false]
      rw [← g5]; congr 1; omega
     ·by_cases e : i = k
      ·subst e
       refine ⟨o, q, ho, by simp, fun e => ?_, ?_, ?_⟩
       ·simp [g2, k2 e]
       ·simpa [g2] using k4
       ·simp [g4, k5]
      ·obtain ⟨o', q', q1, q0, q4, q2, q3⟩ := g6 i (by omega) (by omega)
       have e2 : i + 1 ≠ k := by omega
       have e3 : i - k = (i - (k + 1)) + 1 := by omega
       exact ⟨o', q', q1, by rw [e3]; simpa using q0, by simpa [e, e2] using q4, by simpa [e, e2] using q2, by simpa [e, e2] using q3⟩
theorem StepQ.congr {ops : Array Oper} {hp hp1 : Hp} {σ σ' : Nat → D} {o : Oper} {d : D} (h : StepQ C ops hp hp1 σ o d) (hs : ∀ t ∈ o.looksAt ops, σ t = σ' t) : StepQ C ops hp hp1 σ' o d := by
 obtain ⟨oc, xs, h1, h2, h3, h4⟩ := h
 have hm : xs.map (evO σ) = xs.map (evO σ') := by
  refine List.map_congr_left fun x hx => ?_
  have := resolve_sub h1 x hx
  cases x with
  | tmp t =>
    refine hs t ?_
    simp only [Oper.looksAt, List.mem_append, List.mem_filterMap]
    exact .inl ⟨.tmp t, by simpa using this, rfl⟩
  | _ => rfl
 refine ⟨oc, xs, h1, h2, h3, ?_⟩
 rw [← hm]
 rcases h4 with h4 | ⟨j, want, t, g1, g2, g3, g4⟩
 ·exact .inl h4
 ·refine .inr ⟨j, want, t, g1, g2, g3, ?_⟩
  rw [← hs t (by simp [Oper.looksAt, g1, g2])]
  exact g4
theorem StepQ.free {ops : Array Oper} {hp hp1 hp2 : Hp} {σ : Nat → D} {o : Oper} {d : D} {x : RO} (h : StepQ C ops hp hp1 σ o d) (hx : zC3 C ops o = some x) (hf : zEj x.oc = true) : StepQ C ops hp2 hp2 σ o d := by
 obtain ⟨oc, xs, h1, h2, h3, h4⟩ := h
 have e : x.oc = oc := by
  unfold zC3 at hx
  simp only [h1] at hx
  (repeat' split at hx) <;> simp at hx
  subst hx; rfl
 rw [e] at hf
 refine ⟨oc, xs, h1, h2, h3, ?_⟩
 rcases h4 with ⟨g1, g2⟩ | ⟨j, want, t, g1, g2, g3, g4⟩
 ·exact .inl ⟨g1, free_any hf g2⟩
 ·refine .inr ⟨j, want, t, g1, g2, g3, ?_⟩
  rcases g4 with ⟨q1, q2⟩ | ⟨q1, q2, _⟩ | ⟨q1, q2, _⟩
  ·exact .inl ⟨q1, free_any hf q2⟩
  ·exact .inr (.inl ⟨q1, q2, rfl⟩)
  ·exact .inr (.inr ⟨q1, q2, rfl⟩)
theorem rel_evO {a : Act} {w : World} {G : Gh} {σ : Nat → D} (hs : ∀ t, Rel w G (σ t) (a.tmps.getD t Go.undef)) :
 ∀ {xs : List Operand} {ys : List Opd}, resOs C xs = some ys → RelL w G (xs.map (evO σ)) (xs.map a.eval)
 | [], ys, h => RelL.nil
 | x :: xs, ys, h => by
   simp only [resOs] at h
   cases h1 : resO C x with
   | none => simp [h1] at h
   | some y =>
     cases h2 : resOs C xs with
     | none => simp [h1, h2] at h
     | some zs =>
       refine RelL.cons ?_ (rel_evO hs h2)
       cases x with
       | tmp t => exact hs t
       | const v =>
         simp only [resO] at h1
         cases hv : toD v with
         | none => simp [hv] at h1
         | some d => simpa [evO, hv, Act.eval] using (toD_rel (w := w) (g := G) hv).1.any
       | global g => simp [resO] at h1
       | func f => simp only [evO, Rel, Act.eval]; exact ⟨[], [], rfl, RelL.nil, RelL.nil⟩
theorem zF6 {a : Act} {w : World} {G : Gh} {σ : Nat → D} (hs : ∀ t, Rel w G (σ t) (a.tmps.getD t Go.undef)) (hn : a.tmps.size = C.nt)
 {dst : Option Nat} {ds : Dst} (hd : zB4 C dst = some ds) {d : D} {v : Value} (hv : Rel w G d v) : ∀ t, Rel w G (updO σ dst d t) ((a.put dst v).tmps.getD t Go.undef) := by
 intro t
 cases dst with
 | none => exact hs t
 | some u =>
   simp only [zB4] at hd
   split at hd
   case isFalse => cases hd
   rename_i hu
   have hval : (a.put (some u) v).tmps.getD t Go.undef = if u = t then v else a.tmps.getD t Go.undef := by
    simp only [Act.put, Array.getD_eq_getD_getElem?, Array.getElem?_setIfInBounds]
    by_cases e : u = t
    ·subst e; simp [hn, hu]
    ·simp [e]
   rw [hval]
   simp only [updO]
   split
   ·exact hv
   ·exact hs t
theorem StepQ.sound {ro : Option Nat} {Q : Exit → Act → World → Prop} (hA : C.M.start w0 B ∧ PQ C w0 B Q) {ops : Array Oper} {hp hp1 : Hp} {σ : Nat → D} {o : Oper} {d : D} {next : Act → World → Prop} (h : StepQ C ops hp hp1 σ o d) {a : Act} {w : World} (hs : SimF C w0 B σ hp a w)
 (ih : ∀ a w, SimF C w0 B (updO σ o.dst d) hp1 a w → next a w) :
 if Region.wanted o (yielded ops a.tmps) then o.wpIn (FR ro) 0 C.P a w next Q else (∀ f, o.about C.P w a.eval = some f → (FR ro).fn f) ∧ next (a.put o.dst Go.undef) w := by
 obtain ⟨oc, xs, h1, ⟨ys, h2⟩, ⟨ds, h3⟩, h4⟩ := h
 obtain ⟨G, hi, gb, g1, g2, g4⟩ := hs
 have run : OcWp C.M oc (xs.map (evO σ)) hp (fun d' hp' => d' = d ∧ hp' = hp1) → o.wpIn (FR ro) 0 C.P a w next Q := by
  intro hoc
  refine OcWp_sound h1 hA.1 hi (rel_evO g4 h2) hoc (fun ch w' hp => hA.2 _ _ _ g2 hp) ?_
  rintro d' hp' G' v w' ⟨rfl, rfl⟩ k2 k3 k4
  refine ih _ _ ⟨G', k2, gb, by rw [zB8]; exact g1, by rw [zC0]; exact g2, ?_⟩
  exact zF6 (fun t => Rel.evo _ k3 (g4 t)) g1 h3 k4
 have skp : d = .skip ∧ hp1 = hp → next (a.put o.dst Go.undef) w := by
  rintro ⟨rfl, rfl⟩
  refine ih _ _ ⟨G, hi, gb, by rw [zB8]; exact g1, by rw [zC0]; exact g2, ?_⟩
  exact zF6 g4 g1 h3 (by simp [Rel])
 rcases h4 with ⟨hog, h4⟩ | ⟨j, want, t, hog, hj, htn, h4⟩
 ·simp only [Region.wanted, hog, if_true]; exact run h4
 ·have hlt : t < a.tmps.size := g1.symm ▸ htn
  have hy : yielded ops a.tmps j = match a.tmps.getD t Go.undef with | .bool b => some b | _ => none := by
   simp [yielded, hj, Array.getD_eq_getD_getElem?, hlt]
   cases a.tmps[t] <;> rfl
  have hrel := g4 t
  rcases h4 with ⟨e, h4⟩ | ⟨e, h4⟩ | ⟨e, h4⟩
  ·rw [e] at hrel; simp only [Rel] at hrel
   have : Region.wanted o (yielded ops a.tmps) = true := by
    simp only [Region.wanted, hog]; rw [hy, hrel]; cases want <;> rfl
   rw [this]; simp only [if_true]; exact run h4
  iterate 2
   ·rw [e] at hrel; simp only [Rel] at hrel
    have : Region.wanted o (yielded ops a.tmps) = false := by
     simp only [Region.wanted, hog]; rw [hy, hrel]; cases want <;> rfl
    rw [this]; simp only [Bool.false_eq_true, if_false]; exact ⟨fun _ _ => trivial, skp h4⟩
end
end GoV
end
section
set_option linter.unusedSimpArgs false
namespace GoV
open Go
theorem snoc_ind {α : Type} {p : List α → Prop} (h0 : p []) (hs : ∀ l a, p l → p (l ++ [a])) (l : List α) : p l := by
 have h : ∀ l : List α, p l.reverse := by
  intro l
  induction l with
  | nil => simpa using h0
  | cons a l ih => rw [List.reverse_cons]; exact hs _ a ih
 have := h l.reverse
 rwa [List.reverse_reverse] at this
theorem zDo (l : List Oper) (o : Oper) : zA7 (l ++ [o]) = zA7 l ++ [(o.after.toList.filter (Region.binds .any)).flatMap fun e => e.on :: (zA7 l).getD e.on []] := by
 simp [zA7, List.foldl_append]
theorem zBr : ∀ (l : List Oper), (zA7 l).length = l.length := by
 refine snoc_ind rfl fun l o ih => ?_
 rw [zDo]; simp [ih]
theorem zFn (l r : List Oper) : ∀ j, j < l.length → (zA7 (l ++ r)).getD j [] = (zA7 l).getD j [] := by
 refine snoc_ind (p := fun r => ∀ j, j < l.length → (zA7 (l ++ r)).getD j [] = (zA7 l).getD j []) (by simp) (fun r o ih => ?_) r
 intro j hj
 rw [← List.append_assoc, zDo, ← ih j hj]
 have : j < (zA7 (l ++ r)).length := by rw [zBr]; simp; omega
 simp [List.getD, List.getElem?_append_left this]
theorem zFw {l : List Oper} {j i : Nat} {o : Oper} (hj : l[j]? = some o) (hi : i ∈ (zA7 l).getD j []) : ∃ e ∈ o.after, Region.binds .any e = true ∧ (i = e.on ∨ i ∈ (zA7 l).getD e.on []) := by
 have hlt : j < l.length := by
  rcases Nat.lt_or_ge j l.length with g | g
  ·exact g
  ·rw [List.getElem?_eq_none g] at hj; cases hj
 have hsplit : l = (l.take j ++ [o]) ++ l.drop (j + 1) := by
  have h1 : l.drop j = o :: l.drop (j + 1) := by
   rw [List.drop_eq_getElem_cons hlt]
   rw [List.getElem?_eq_getElem hlt] at hj; cases hj; rfl
  rw [List.append_assoc, List.singleton_append, ← h1, List.take_append_drop]
 have hlen : (l.take j).length = j := by simp; omega
 have hp : ∀ k, k < j + 1 → (zA7 l).getD k [] = (zA7 (l.take j ++ [o])).getD k [] := by
  intro k hk
  conv => lhs; rw [hsplit]
  exact zFn _ _ k (by simp [hlen]; omega)
 rw [hp j (by omega), zDo] at hi
 have e1 : (zA7 (l.take j) ++ [(o.after.toList.filter (Region.binds .any)).flatMap fun e => e.on :: (zA7 (l.take j)).getD e.on []]).getD j [] = (o.after.toList.filter (Region.binds .any)).flatMap fun e => e.on :: (zA7 (l.take j)).getD e.on [] := by
  have : (zA7 (l.take j)).length = j := by rw [zBr, hlen]
  simp [List.getD, List.getElem?_append_right, this]
 rw [e1, List.mem_flatMap] at hi
 obtain ⟨e, he, hi⟩ := hi
 obtain ⟨he, hbd⟩ := List.mem_filter.1 he
 refine ⟨e, by simpa using he, hbd, ?_⟩
 rcases List.mem_cons.1 hi with h | h
 ·exact .inl h
 ·refine .inr ?_
  by_cases hk : e.on < j
  ·rw [hp e.on (by omega), zFn _ _ e.on (by rw [hlen]; exact hk)]; exact h
  ·have : (zA7 (l.take j)).getD e.on [] = [] := by
    simp [List.getD, List.getElem?_eq_none (show (zA7 (l.take j)).length ≤ e.on by rw [zBr, hlen]; omega)]
   rw [this] at h; cases h
def dstO (ops : Array Oper) (j : Nat) : Option Nat := (ops[j]?).bind (·.dst)
def sig (ops : Array Oper) (σ0 : Nat → D) (ds : Nat → D) (E : Nat → Bool) : Nat → Nat → D
 | 0 => σ0
 | k + 1 => if E k then updO (sig ops σ0 ds E k) (dstO ops k) (ds k) else sig ops σ0 ds E k
theorem updO_ne {σ : Nat → D} {dst : Option Nat} {d : D} {t : Nat} (h : dst ≠ some t) : updO σ dst d t = σ t := by
 cases dst with
 | none => rfl
 | some u => simp only [updO]; rw [if_neg]; intro e; subst e; exact h rfl
theorem updO_eq {σ : Nat → D} {dst : Option Nat} {d : D} {t : Nat} (h : dst = some t) : updO σ dst d t = d := by
 subst h; simp [updO]
section
variable {ops : Array Oper} {σ0 : Nat → D} {ds : Nat → D}
theorem zD4 {E : Nat → Bool} {t a : Nat} : ∀ b, a ≤ b → (∀ j, a ≤ j → j < b → E j = true → dstO ops j ≠ some t) → sig ops σ0 ds E b t = sig ops σ0 ds E a t := by
 intro b
 induction b with
 | zero => intro h _; rw [Nat.le_zero.1 h]
 | succ b ih =>
   intro h hn
   rcases Nat.lt_or_ge b a with g | g
   ·have : a = b + 1 := by omega
    rw [this]
   ·simp only [sig]
    split
    ·rename_i he
     rw [updO_ne (hn b g (by omega) he)]
     exact ih g fun j h1 h2 => hn j h1 (by omega)
    ·exact ih g fun j h1 h2 => hn j h1 (by omega)
theorem zEl {E E' : Nat → Bool} {t : Nat} : ∀ k, (∀ j, j < k → dstO ops j = some t → E j = E' j) → sig ops σ0 ds E k t = sig ops σ0 ds E' k t := by
 intro k
 induction k with
 | zero => intro _; rfl
 | succ k ih =>
   intro h
   have ih' := ih fun j hj => h j (by omega)
   by_cases hd : dstO ops k = some t
   ·simp only [sig, h k (by omega) hd]
    split
    ·rw [updO_eq hd, updO_eq hd]
    ·exact ih'
   ·have e1 : sig ops σ0 ds E (k + 1) t = sig ops σ0 ds E k t := zD4 (k + 1) (by omega) fun j h1 h2 _ => by rwa [show j = k by omega]
    have e2 : sig ops σ0 ds E' (k + 1) t = sig ops σ0 ds E' k t := zD4 (k + 1) (by omega) fun j h1 h2 _ => by rwa [show j = k by omega]
    rw [e1, e2, ih']
theorem sig_set {E : Nat → Bool} {i m : Nat} (him : i < m) (hE : E i = false) (hc : ∀ j t, j < m → j ≠ i → dstO ops i = some t → dstO ops j = some t → i < j → E j = false) :
 sig ops σ0 ds (fun j => E j || j == i) m = updO (sig ops σ0 ds E m) (dstO ops i) (ds i) := by
 funext t
 by_cases hd : dstO ops i = some t
 ·rw [updO_eq hd]
  have e1 : sig ops σ0 ds (fun j => E j || j == i) m t = sig ops σ0 ds (fun j => E j || j == i) (i + 1) t := zD4 m (by omega) fun j h1 h2 he => by
   have hji : j ≠ i := by omega
   intro hdj
   have := hc j t h2 hji hd hdj (by omega)
   simp [this, hji] at he
  rw [e1]
  simp only [sig, beq_self_eq_true, Bool.or_true, if_true]
  rw [updO_eq hd]
 ·rw [updO_ne hd]
  refine zEl m fun j hj hdj => ?_
  have : j ≠ i := by intro e; subst e; exact hd hdj
  simp [this]
end
def unl (l : List Bool) : Nat := (l.filter fun b => !b).length
theorem unl_set : ∀ (l : List Bool) (i : Nat), l[i]? = some false → unl (l.set i true) + 1 = unl l
 | [], i, h => by simp at h
 | b :: l, 0, h => by simp at h; subst h; simp [unl]
 | b :: l, i + 1, h => by
   have := unl_set l i (by simpa using h)
   unfold unl at *
   rw [List.set_cons_succ]
   simp only [List.filter_cons]
   split <;> (try simp only [List.length_cons]) <;> omega
theorem unl_zero : ∀ (l : List Bool), unl l = 0 → ∀ i, i < l.length → l[i]? = some true
 | [], _, i, h => by simp at h
 | b :: l, h0, i, h => by
   simp only [unl, List.filter_cons] at h0
   split at h0
   ·simp at h0
   ·rename_i hb
    have hb' : b = true := by simpa using hb
    cases i with
    | zero => simp [hb']
    | succ i => simpa using unl_zero l h0 i (by simpa using h)
theorem zCf {C : Cfg} {ops : Array Oper} : ∀ (l : List Nat) (ros : List RO), zBh C ops l = some ros → ros.length = l.length
 | [], ros, h => by simp [zBh] at h; subst h; rfl
 | i :: l, ros, h => by
   obtain ⟨o, x, xs, _, _, h2, rfl⟩ := zCk h
   simp [zCf l xs h2]
theorem zC2 {C : Cfg} {ops : Array Oper} : ∀ (n k i : Nat) (ros : List RO), zBh C ops (List.range' k n) = some ros → i < n → ∃ o x, ops[k + i]? = some o ∧ zC3 C ops o = some x ∧ ros.drop i = x :: ros.drop (i + 1)
 | 0, _, i, _, _, h => by omega
 | n + 1, k, i, ros, h, hi => by
   rw [List.range'_succ] at h
   obtain ⟨o, x, xs, h0, h1, h2, rfl⟩ := zCk h
   cases i with
   | zero => exact ⟨o, x, h0, h1, rfl⟩
   | succ i =>
     obtain ⟨o', x', g0, g1, g2⟩ := zC2 n (k + 1) i xs h2 (by omega)
     exact ⟨o', x', by rw [← g0]; congr 1; omega, g1, by simpa using g2⟩
theorem zFr {C : Cfg} {ops : Array Oper} : ∀ (m n k : Nat) (ros : List RO), zBh C ops (List.range' k n) = some ros → m ≤ n → zBh C ops (List.range' k m) = some (ros.take m)
 | 0, _, _, _, _, _ => rfl
 | m + 1, 0, _, _, _, h => by omega
 | m + 1, n + 1, k, ros, h, hm => by
   rw [List.range'_succ] at h
   obtain ⟨o, x, xs, h0, h1, h2, rfl⟩ := zCk h
   rw [List.range'_succ]
   simp [zBh, h0, h1, zFr m n (k + 1) xs h2 (by omega)]
theorem masks_snoc (l : List Oper) (o : Oper) : masks (l ++ [o]) = masks l ++ [o.after.toList.foldl (fun m e => if Region.binds .any e then m ||| ((1 <<< e.on) ||| (masks l).getD e.on 0) else m) 0] := by
 simp [masks, List.foldl_append]
theorem zDj : ∀ (l : List Oper), (masks l).length = l.length := by
 refine snoc_ind rfl fun l o ih => ?_
 rw [masks_snoc]; simp [ih]
theorem zEe : ∀ (l : List Oper) (j i : Nat), ((masks l).getD j 0).testBit i = true → i ∈ (zA7 l).getD j [] := by
 refine snoc_ind (by simp [masks, zA7]) fun l o ih j i h => ?_
 rw [masks_snoc] at h
 rw [zDo]
 by_cases hj : j < l.length
 ·rw [List.getD, List.getElem?_append_left (by rw [zDj]; exact hj)] at h
  rw [List.getD, List.getElem?_append_left (by rw [zBr]; exact hj)]
  exact ih j i h
 ·by_cases hj2 : j = l.length
  ·subst hj2
   rw [List.getD, List.getElem?_append_right (by rw [zDj]; exact Nat.le_refl _)] at h
   rw [List.getD, List.getElem?_append_right (by rw [zBr]; exact Nat.le_refl _)]
   simp only [zDj, Nat.sub_self, List.getElem?_cons_zero, Option.getD_some] at h
   simp only [zBr, Nat.sub_self, List.getElem?_cons_zero, Option.getD_some]
   have key : ∀ (es : List Edge) (m : Nat), (es.foldl (fun m e => if Region.binds .any e then m ||| ((1 <<< e.on) ||| (masks l).getD e.on 0) else m) m).testBit i = true →
    m.testBit i = true ∨ i ∈ (es.filter (Region.binds .any)).flatMap fun e => e.on :: (zA7 l).getD e.on [] := by
    intro es
    induction es with
    | nil => intro m h; exact .inl h
    | cons e es ihe =>
      intro m h
      simp only [List.foldl_cons] at h
      by_cases hb : Region.binds .any e = true
      ·rw [if_pos hb] at h
       rw [List.filter_cons_of_pos hb, List.flatMap_cons]
       rcases ihe _ h with q | q
       ·rw [Nat.testBit_or, Nat.testBit_or, Bool.or_eq_true, Bool.or_eq_true] at q
        rcases q with q | q | q
        ·exact .inl q
        ·right
         have : i = e.on := by
          rw [Nat.one_shiftLeft, Nat.testBit_two_pow] at q
          exact (of_decide_eq_true q).symm
         subst this; simp
        ·right; exact List.mem_append.2 (.inl (List.mem_cons_of_mem _ (ih e.on i q)))
       ·right; exact List.mem_append.2 (.inr q)
      ·rw [if_neg hb] at h
       rw [List.filter_cons_of_neg hb]
       exact ihe _ h
   rcases key _ 0 h with q | q
   ·simp at q
   ·exact q
  ·have : (masks l ++ [o.after.toList.foldl (fun m e => if Region.binds .any e then m ||| ((1 <<< e.on) ||| (masks l).getD e.on 0) else m) 0])[j]? = none := by
    rw [List.getElem?_eq_none]; simp [zDj]; omega
   rw [List.getD, this] at h
   simp at h
theorem zA6 {ops : Array Oper} {m : Nat} (h : drawOk ops m = true) {j : Nat} {oj : Oper} (hj : ops[j]? = some oj) :
 (∀ e ∈ oj.after, Region.binds .any e = true → e.on < j) ∧ ∀ i, i < j → ∃ oi, ops[i]? = some oi ∧ (i ∈ (zA7 ops.toList).getD j [] ∨ (j < m ∧ clash ops oi oj = false)) := by
 have hlt : j < ops.size := (Array.getElem?_eq_some_iff.1 hj).1
 simp only [drawOk, List.all_eq_true, List.mem_range] at h
 have h1 := h j hlt
 rw [hj] at h1
 simp only [Bool.and_eq_true, Bool.or_eq_true, List.all_eq_true, List.mem_range] at h1
 obtain ⟨h2, h3⟩ := h1
 refine ⟨fun e he hbd => ?_, fun i hi => ?_⟩
 ·have := (Array.all_eq_true_iff_forall_mem.1 h2) e he
  simpa [hbd] using this
 ·rcases h3 with h3 | h3
  ·have e : (masks ops.toList).getD j 0 = 2 ^ j - 1 := by simpa using h3
   refine ⟨_, Array.getElem?_eq_getElem (show i < ops.size by omega), .inl (zEe _ _ _ ?_)⟩
   rw [e, Nat.testBit_two_pow_sub_one]
   simpa using hi
  ·have h4 := h3 i hi
   split at h4
   ·rename_i oi ho
    refine ⟨oi, ho, ?_⟩
    rw [Bool.or_eq_true] at h4
    rcases h4 with q | q
    ·exact .inl (zEe _ _ _ q)
    ·exact .inr (by simpa using q)
   ·cases h4
theorem zFf {ops : Array Oper} {x y : Oper} (h : clash ops x y = false) : (∀ t, x.dst = some t → t ∉ zCw ops y) ∧ (∀ t, y.dst = some t → t ∉ zCw ops x) := by
 simp only [clash, Bool.or_eq_false_iff] at h
 refine ⟨fun t ht hm => ?_, fun t ht hm => ?_⟩
 iterate 2
  ·rw [ht] at h; simp [List.contains_iff_mem, hm] at h
theorem zBq {listed : Array Bool} {i j : Nat} (hi : i < listed.size) : (listed.setIfInBounds i true).getD j false = (listed.getD j false || j == i) := by
 by_cases e : i = j
 ·subst e; simp [hi]
 ·rw [getD_set_ne false e]
  have : (j == i) = false := by simp; exact fun h => e h.symm
  simp [this]
theorem befores_lt {ops : Array Oper} {m : Nat} (hB : drawOk ops m = true) : ∀ (j : Nat), j < ops.size → ∀ i ∈ (zA7 ops.toList).getD j [], i < j := by
 intro j
 induction j using Nat.strongRecOn with
 | _ j ih =>
   intro hj i hi
   have hoj : ops[j]? = some ops[j] := Array.getElem?_eq_getElem hj
   have hoj' : ops.toList[j]? = some ops[j] := by rw [Array.getElem?_toList]; exact hoj
   obtain ⟨e, he, hbd, h1⟩ := zFw hoj' hi
   have hlt := (zA6 hB hoj).1 e he hbd
   rcases h1 with h1 | h1
   ·omega
   ·have := ih e.on hlt (by omega) i h1; omega
def hpE (hps : Nat → Hp) (fl E : Nat → Bool) : Nat → Hp
 | 0 => hps 0
 | k + 1 => if E k && !fl k then hps (k + 1) else hpE hps fl E k
section
variable {hps : Nat → Hp} {fl : Nat → Bool}
theorem hpE_none {E : Nat → Bool} : ∀ k, (∀ j, j < k → E j = false) → hpE hps fl E k = hps 0 := by
 intro k
 induction k with
 | zero => intro _; rfl
 | succ k ih => intro h; simp [hpE, h k (by omega), ih fun j hj => h j (by omega)]
theorem hpE_all {E : Nat → Bool} : ∀ k, (∀ j, j < k → fl j = false → E j = true) → (∀ j, j < k → fl j = true → hps (j + 1) = hps j) → hpE hps fl E k = hps k := by
 intro k
 induction k with
 | zero => intro _ _; rfl
 | succ k ih =>
   intro h hf
   have e := ih (fun j hj => h j (by omega)) (fun j hj => hf j (by omega))
   cases hb : fl k with
   | true => simp [hpE, hb, e, hf k (by omega) hb]
   | false => simp [hpE, hb, h k (by omega) hb]
theorem hpE_skip {E : Nat → Bool} {a : Nat} : ∀ b, a ≤ b → (∀ j, a ≤ j → j < b → fl j = false → E j = false) → hpE hps fl E b = hpE hps fl E a := by
 intro b
 induction b with
 | zero => intro h _; rw [Nat.le_zero.1 h]
 | succ b ih =>
   intro h hn
   rcases Nat.lt_or_ge b a with g | g
   ·have : a = b + 1 := by omega
    rw [this]
   ·rw [← ih g fun j h1 h2 => hn j h1 (by omega)]
    cases hb : fl b with
    | true => simp [hpE, hb]
    | false => simp [hpE, hb, hn b g (by omega) hb]
theorem hpE_agree {E E' : Nat → Bool} : ∀ k, (∀ j, j < k → fl j = false → E j = E' j) → hpE hps fl E k = hpE hps fl E' k := by
 intro k
 induction k with
 | zero => intro _; rfl
 | succ k ih =>
   intro h
   have e := ih fun j hj => h j (by omega)
   cases hb : fl k with
   | true => simp [hpE, hb, e]
   | false => simp [hpE, hb, h k (by omega) hb, e]
end
theorem isEff_free {oc : OC} (h : isEff oc = true) : zEj oc = false := by cases oc <;> simp_all [isEff, zEj]
theorem quietAt_spec {bs : List Nat} {ros : List RO} {m j i : Nat} {y : RO} (h : zFu bs ros m j = false) (hi : i < m) (hij : i ≠ j) (hy : ros[i]? = some y) (hf : zEj y.oc = false) :
 (bs.getD j 0).testBit i = true ∨ (bs.getD i 0).testBit j = true := by
 unfold zFu at h
 split at h
 ·split at h
  ·have := List.any_eq_false.1 h i (List.mem_range.2 hi)
   simp only [hy, hf, unord, Bool.not_false, Bool.and_true, Bool.and_eq_true, bne_iff_ne, ne_eq, hij, not_false_eq_true, true_and, Bool.not_eq_true', not_and] at this
   cases h1 : (bs.getD j 0).testBit i with
   | true => exact .inl rfl
   | false =>
     cases h2 : (bs.getD i 0).testBit j with
     | true => exact .inr rfl
     | false =>
       exfalso
       have q := this h1
       exact q h2
  ·cases h
 ·cases h
theorem quietAt_free {bs : List Nat} {ros : List RO} {m j : Nat} {x : RO} (hx : ros[j]? = some x) (hf : zEj x.oc = true) : zFu bs ros m j = true := by
 unfold zFu
 simp only [hx]
 rw [if_neg]
 intro h; rw [isEff_free h] at hf; cases hf
section
variable {C : Cfg} {w0 : World} {B : Gh}
theorem draw_sound {ro : Option Nat} {Q : Exit → Act → World → Prop} (hA : C.M.start w0 B ∧ PQ C w0 B Q) {ops : Array Oper} {m : Nat} {ros : List RO} {K : St → Prop} (hB : drawOk ops m = true) (hm : m ≤ ops.size) (hr : zBh C ops (List.range' 0 ops.size) = some ros)
 (hQ : ∀ s a w, K s → Sim C w0 B s a w → Q .normal a w) {s : St} (_hl : s.env.length = C.pers.length)
 {ds : Nat → D} {hps : Nat → Hp} {fl : Nat → Bool} {s1 : St} (hfl : fl = zFu (masks ops.toList) ros m) (hk1 : opsWp C.M (ros.drop m) K s1) (hpm : hps m = s1.hp) (hl1 : s1.env.length = C.pers.length)
 (hfq : ∀ i, i < m → fl i = true → hps (i + 1) = hps i)
 (hst : ∀ i, i < m → ∃ o, ops[i]? = some o ∧ StepQ C ops (hps i) (hps (i + 1)) (sig ops (s.slot C.pers) ds (fun _ => true) i) o (ds i))
 (hend : sig ops (s.slot C.pers) ds (fun _ => true) m = s1.slot C.pers) :
 ∀ (fuel : Nat) (listed : Array Bool) (a : Act) (w : World), listed.size = ops.size → unl listed.toList ≤ fuel →
  (∀ j oj, ops[j]? = some oj → listed.getD j false = true → ∀ e ∈ oj.after, Region.binds .any e = true → listed.getD e.on false = true) →
  (((∀ j, listed.getD j false = true → j < m) ∧ SimF C w0 B (sig ops (s.slot C.pers) ds (fun j => listed.getD j false) m) (hpE hps fl (fun j => listed.getD j false) m) a w) ∨
    ∃ i s', m ≤ i ∧ (∀ j, j < ops.size → (listed.getD j false = true ↔ j < i)) ∧ Sim C w0 B s' a w ∧ opsWp C.M (ros.drop i) K s') →
  wpAnyIn (FR ro) 0 C.P .any ops Q fuel listed a w := by
 have hros : ros.length = ops.size := by rw [zCf _ _ hr]; simp
 have hsub : ∀ (listed : Array Bool), (∀ j oj, ops[j]? = some oj → listed.getD j false = true → ∀ e ∈ oj.after, Region.binds .any e = true → listed.getD e.on false = true) →
  ∀ j oj, ops[j]? = some oj → (∀ e ∈ oj.after, Region.binds .any e = true → listed.getD e.on false = true) → ∀ i ∈ (zA7 ops.toList).getD j [], listed.getD i false = true := by
  intro listed hcl j
  induction j using Nat.strongRecOn with
  | _ j ih =>
    intro oj hj ha i hi
    obtain ⟨e, he, hbd, h1⟩ := zFw (by simpa using hj) hi
    rcases h1 with h1 | h1
    ·rw [h1]; exact ha e he hbd
    ·have hlt := (zA6 hB hj).1 e he hbd
     have hjs : j < ops.size := (Array.getElem?_eq_some_iff.1 hj).1
     have hoe : ops[e.on]? = some ops[e.on] := Array.getElem?_eq_getElem (by omega)
     exact ih e.on hlt _ hoe (hcl e.on _ hoe (ha e he hbd)) i h1
 have conv : ∀ (listed : Array Bool) (a : Act) (w : World), (∀ j, listed.getD j false = true → j < m) → (∀ j, j < m → listed.getD j false = true) →
  SimF C w0 B (sig ops (s.slot C.pers) ds (fun j => listed.getD j false) m) (hpE hps fl (fun j => listed.getD j false) m) a w → Sim C w0 B s1 a w := by
  intro listed a w h1 h2 hs
  have e : sig ops (s.slot C.pers) ds (fun j => listed.getD j false) m = s1.slot C.pers := by
   rw [← hend]; funext t
   exact zEl m fun j hj _ => h2 j hj
  obtain ⟨G, g1, gb, g2, g3, g4⟩ := hs
  rw [hpE_all m (fun j hj _ => h2 j hj) hfq] at g1
  exact ⟨G, by rw [← hpm]; exact g1, gb, g2, g3, hl1, by rw [← e]; exact g4⟩
 have fin : ∀ (listed : Array Bool) (a : Act) (w : World), (∀ j, j < ops.size → listed.getD j false = true) →
  (((∀ j, listed.getD j false = true → j < m) ∧ SimF C w0 B (sig ops (s.slot C.pers) ds (fun j => listed.getD j false) m) (hpE hps fl (fun j => listed.getD j false) m) a w) ∨
    ∃ i s', m ≤ i ∧ (∀ j, j < ops.size → (listed.getD j false = true ↔ j < i)) ∧ Sim C w0 B s' a w ∧ opsWp C.M (ros.drop i) K s') → Q .normal a w := by
  intro listed a w hall h
  rcases h with ⟨h1, h2⟩ | ⟨i, s', h1, h2, h3, h4⟩
  ·have hs1 := conv listed a w h1 (fun j hj => hall j (by omega)) h2
   have hmn : ops.size ≤ m := by
    rcases Nat.eq_zero_or_pos ops.size with g | g
    ·omega
    ·have := h1 (ops.size - 1) (hall _ (by omega)); omega
   rw [List.drop_eq_nil_of_le (by omega)] at hk1
   exact hQ s1 a w hk1 hs1
  ·have hin : ops.size ≤ i := by
    rcases Nat.eq_zero_or_pos ops.size with g | g
    ·omega
    ·have := (h2 (ops.size - 1) (by omega)).1 (hall _ (by omega)); omega
   rw [List.drop_eq_nil_of_le (by omega)] at h4
   exact hQ s' a w h4 h3
 have least : ∀ (listed : Array Bool), listed.size = ops.size → (∀ j oj, ops[j]? = some oj → listed.getD j false = true → ∀ e ∈ oj.after, Region.binds .any e = true → listed.getD e.on false = true) →
  Region.ready .any ops listed = [] → ∀ j, j < ops.size → listed.getD j false = true := by
  intro listed hsz hcl hr0 j
  induction j using Nat.strongRecOn with
  | _ j ih =>
    intro hj
    cases hb : listed.getD j false with
    | true => rfl
    | false =>
      exfalso
      have hoj : ops[j]? = some ops[j] := Array.getElem?_eq_getElem hj
      have : j ∈ Region.ready .any ops listed := by
       rw [mem_ready]
       refine ⟨?_, ops[j], hoj, fun e he hbd => ?_⟩
       ·have hlt : j < listed.size := by omega
        simp [hlt] at hb ⊢; exact hb
       ·have := (zA6 hB hoj).1 e he hbd
        exact ih e.on this (by omega)
      rw [hr0] at this; cases this
 intro fuel
 induction fuel with
 | zero =>
   intro listed a w hsz hu hcl h
   have hall : ∀ j, j < ops.size → listed.getD j false = true := by
    intro j hj
    have hlt : j < listed.size := by omega
    have := unl_zero listed.toList (by omega) j (by simpa using hlt)
    simp [hlt] at this ⊢; exact this
   refine ⟨?_, fin listed a w hall h⟩
   cases hr0 : Region.ready .any ops listed with
   | nil => rfl
   | cons i l =>
     have : i ∈ Region.ready .any ops listed := by rw [hr0]; simp
     obtain ⟨h1, o, ho, _⟩ := mem_ready.1 this
     have hlt : i < ops.size := (Array.getElem?_eq_some_iff.1 ho).1
     have h2 := hall i hlt
     have hlt2 : i < listed.size := by omega
     simp [hlt2] at h1 h2; rw [h1] at h2; cases h2
 | succ fuel ih =>
   intro listed a w hsz hu hcl h
   refine ⟨fun hr0 => fin listed a w (least listed hsz hcl hr0) h, fun i hi => ?_⟩
   obtain ⟨hun, o, ho, hdeps⟩ := mem_ready.1 hi
   have hlt : i < ops.size := (Array.getElem?_eq_some_iff.1 ho).1
   have hlt2 : i < listed.size := by omega
   have hunf : listed.getD i false = false := by simp [hlt2] at hun ⊢; exact hun
   have hdeps' : ∀ e ∈ o.after, Region.binds .any e = true → listed.getD e.on false = true := hdeps
   have hbef := hsub listed hcl i o ho hdeps'
   have hcl' : ∀ j oj, ops[j]? = some oj → (listed.setIfInBounds i true).getD j false = true → ∀ e ∈ oj.after, Region.binds .any e = true → (listed.setIfInBounds i true).getD e.on false = true := by
    intro j oj hj hlj e he hbd
    rw [zBq hlt2] at hlj ⊢
    simp only [Bool.or_eq_true, beq_iff_eq] at hlj ⊢
    rcases hlj with g | g
    ·exact .inl (hcl j oj hj g e he hbd)
    ·subst g
     rw [ho] at hj; cases hj
     exact .inl (hdeps' e he hbd)
   have hu' : unl (listed.setIfInBounds i true).toList ≤ fuel := by
    have := unl_set listed.toList i (by simp [hlt2] at hunf ⊢; exact hunf)
    simp only [Array.toList_setIfInBounds]; omega
   have hafter : m ≤ i → ∀ j, j < ops.size → (listed.getD j false = true ↔ j < i) := by
    intro hmi j hj
    constructor
    ·intro hlj
     rcases Nat.lt_trichotomy j i with g | g | g
     ·exact g
     ·subst g; rw [hunf] at hlj; cases hlj
     ·exfalso
      have hoj : ops[j]? = some ops[j] := Array.getElem?_eq_getElem hj
      obtain ⟨oi, hoi, q⟩ := (zA6 hB hoj).2 i g
      rcases q with q | q
      ·have := hsub listed hcl j _ hoj (hcl j _ hoj hlj) i q
       rw [hunf] at this; cases this
      ·omega
    ·intro hji
     obtain ⟨oi, hoi, q⟩ := (zA6 hB ho).2 j hji
     rcases q with q | q
     ·exact hbef j q
     ·omega
   unfold wpOpIn
   rw [ho]
   by_cases him : i < m
   ·
    rcases h with ⟨h1, h2⟩ | ⟨i', s', h1, h2, h3, h4⟩
    ·obtain ⟨o', ho', hq⟩ := hst i him
     rw [ho] at ho'; cases ho'
     have ords : ∀ j, j < m → j ≠ i → ∀ t, t ∈ zCw ops o → dstO ops j = some t → (listed.getD j false = true ↔ j < i) := by
      intro j hj hji t ht hd
      have hjs : j < ops.size := by omega
      have hoj : ops[j]? = some ops[j] := Array.getElem?_eq_getElem hjs
      have hdj : ops[j].dst = some t := by simpa [dstO, hoj] using hd
      constructor
      ·intro hlj
       rcases Nat.lt_or_ge j i with g | g
       ·exact g
       ·exfalso
        obtain ⟨oi, hoi, q⟩ := (zA6 hB hoj).2 i (by omega)
        rw [ho] at hoi; cases hoi
        rcases q with q | q
        ·have := hsub listed hcl j _ hoj (hcl j _ hoj hlj) i q
         rw [hunf] at this; cases this
        ·exact (zFf q.2).2 t hdj ht
      ·intro g
       obtain ⟨oi, hoi, q⟩ := (zA6 hB ho).2 j g
       rw [hoj] at hoi; cases hoi
       rcases q with q | q
       ·exact hbef j q
       ·exact absurd ht ((zFf q.2).1 t hdj)
     have hlook : ∀ t ∈ o.looksAt ops, sig ops (s.slot C.pers) ds (fun _ => true) i t = sig ops (s.slot C.pers) ds (fun j => listed.getD j false) m t := by
      intro t ht
      have ht' : t ∈ zCw ops o := by simp [zCw, ht]
      have e1 : sig ops (s.slot C.pers) ds (fun j => listed.getD j false) m t = sig ops (s.slot C.pers) ds (fun j => listed.getD j false) i t := by
       refine zD4 m (by omega) fun j g1 g2 g3 hd => ?_
       by_cases hji : j = i
       ·subst hji; rw [hunf] at g3; cases g3
       ·have := (ords j g2 hji t ht' hd).1 g3; omega
      rw [e1]
      exact zEl i fun j hj hd => ((ords j (by omega) (by omega) t ht' hd).2 hj).symm
     obtain ⟨o', x, r1, r2, r3⟩ := zC2 _ _ i ros hr hlt
     rw [Nat.zero_add, ho] at r1; cases r1
     have hx : ros[i]? = some x := by
      have := List.getElem?_drop (xs := ros) (i := i) (j := 0)
      rw [r3] at this; simpa using this.symm
     have hL : ∀ j, (listed.setIfInBounds i true).getD j false = (listed.getD j false || j == i) := fun j => zBq hlt2
     have hstep : StepQ C ops (hpE hps fl (fun j => listed.getD j false) m) (hpE hps fl (fun j => (listed.setIfInBounds i true).getD j false) m) (sig ops (s.slot C.pers) ds (fun _ => true) i) o (ds i) := by
      by_cases hfree : zEj x.oc = true
      ·have hfi : fl i = true := by rw [hfl]; exact quietAt_free hx hfree
       have e : hpE hps fl (fun j => (listed.setIfInBounds i true).getD j false) m = hpE hps fl (fun j => listed.getD j false) m := by
        refine hpE_agree m fun j hj hfj => ?_
        have : j ≠ i := by intro e; subst e; rw [hfi] at hfj; cases hfj
        simp only [hL]; simp [this]
       rw [e]
       exact hq.free r2 hfree
      ·have hfree : zEj x.oc = false := by simpa using hfree
       have hord : ∀ j, j < m → j ≠ i → fl j = false → (j < i ∧ listed.getD j false = true) ∨ (i < j ∧ listed.getD j false = false) := by
        intro j hj hji hfj
        rw [hfl] at hfj
        rcases quietAt_spec hfj him (fun e => hji e.symm) hx hfree with q | q
        ·have q' := zEe _ _ _ q
         refine .inr ⟨befores_lt hB j (by omega) i q', ?_⟩
         cases hb : listed.getD j false with
         | false => rfl
         | true =>
           exfalso
           have hoj : ops[j]? = some ops[j] := Array.getElem?_eq_getElem (by omega)
           have := hsub listed hcl j _ hoj (hcl j _ hoj hb) i q'
           rw [hunf] at this; cases this
        ·have q' := zEe _ _ _ q
         exact .inl ⟨befores_lt hB i hlt j q', hbef j q'⟩
       have e1 : hpE hps fl (fun j => listed.getD j false) m = hps i := by
        rw [hpE_skip (a := i) m (by omega) fun j g1 g2 g3 => ?_]
        ·refine hpE_all i (fun j hj hfj => ?_) fun j hj => hfq j (by omega)
         rcases hord j (by omega) (by omega) hfj with q | q
         ·exact q.2
         ·omega
        ·by_cases e : j = i
         ·subst e; exact hunf
         ·rcases hord j g2 e g3 with q | q
          ·omega
          ·exact q.2
       have e2 : hpE hps fl (fun j => (listed.setIfInBounds i true).getD j false) m = hps (i + 1) := by
        rw [hpE_skip (a := i + 1) m (by omega) fun j g1 g2 g3 => ?_]
        ·refine hpE_all (i + 1) (fun j hj hfj => ?_) fun j hj => hfq j (by omega)
         simp only [hL]
         by_cases e : j = i
         ·subst e; simp
         ·rcases hord j (by omega) e hfj with q | q
          ·simp only [q.2, Bool.true_or]
          ·omega
        ·simp only [hL]
         have e : j ≠ i := by omega
         rcases hord j g2 e g3 with q | q
         ·omega
         ·simp only [q.2, Bool.false_or]; simp [e]
       rw [e1, e2]; exact hq
     refine StepQ.sound hA (hstep.congr hlook) h2 fun a' w' hs' => ih _ a' w' (by simpa using hsz) hu' hcl' (.inl ⟨fun j hj => ?_, ?_⟩)
     ·rw [zBq hlt2] at hj
      simp only [Bool.or_eq_true, beq_iff_eq] at hj
      rcases hj with g | g
      ·exact h1 j g
      ·omega
     ·have e2 : sig ops (s.slot C.pers) ds (fun j => (listed.setIfInBounds i true).getD j false) m = updO (sig ops (s.slot C.pers) ds (fun j => listed.getD j false) m) (dstO ops i) (ds i) := by
       rw [← sig_set him hunf]
       ·congr 1; funext j; exact zBq hlt2
       ·intro j t g1 g2 g3 g4 g5
        cases hb : listed.getD j false with
        | false => rfl
        | true =>
          have hoi : o.dst = some t := by simpa [dstO, ho] using g3
          have := (ords j g1 g2 t (by simp [zCw, hoi]) g4).1 hb
          omega
      rw [e2]
      have : dstO ops i = o.dst := by simp [dstO, ho]
      rw [this]; exact hs'
    ·exfalso
     have := (h2 i hlt).2 (by omega)
     rw [hunf] at this; cases this
   ·
    have hmi : m ≤ i := by omega
    have hiff := hafter hmi
    obtain ⟨s', hs', hk'⟩ : ∃ s', Sim C w0 B s' a w ∧ opsWp C.M (ros.drop i) K s' := by
     rcases h with ⟨h1, h2⟩ | ⟨i', s', h1, h2, h3, h4⟩
     ·have hie : i = m := by
       rcases Nat.lt_or_ge m i with g | g
       ·have := h1 m ((hiff m (by omega)).2 g); omega
       ·omega
      subst hie
      exact ⟨s1, conv listed a w h1 (fun j hj => (hiff j (by omega)).2 hj) h2, hk1⟩
     ·have hie : i' = i := by
       rcases Nat.lt_trichotomy i' i with g | g | g
       ·have q1 := (hiff i' (by omega)).2 g
        have := (h2 i' (by omega)).1 q1; omega
       ·exact g
       ·have := (h2 i hlt).2 g; rw [hunf] at this; cases this
      subst hie
      exact ⟨s', h3, h4⟩
    obtain ⟨o', x, g1, g2, g3⟩ := zC2 _ _ i ros hr hlt
    rw [Nat.zero_add, ho] at g1; cases g1
    rw [g3] at hk'
    refine head_sound hA g2 (K := opsWp C.M (ros.drop (i + 1)) K) (fun s'' a' w' q1 q2 => ih _ a' w' (by simpa using hsz) hu' hcl' (.inr ⟨i + 1, s'', by omega, fun j hj => ?_, q2, q1⟩)) hk' hs'
    rw [zBq hlt2]
    simp only [Bool.or_eq_true, beq_iff_eq]
    have := hiff j hj
    constructor
    ·rintro (q | q)
     ·have := this.1 q; omega
     ·omega
    ·intro q
     by_cases e : j = i
     ·exact .inr e
     ·exact .inl (this.2 (by omega))
theorem zDt (ops : Array Oper) : zB9 ops ≤ ops.size := by
 unfold zB9
 have h : ∀ (l : List Nat) (m n : Nat) (p : Nat → Bool), m ≤ n → (∀ j ∈ l, j < n) → l.foldl (fun m j => if p j then m else j + 1) m ≤ n := by
  intro l
  induction l with
  | nil => intro m n p h _; simpa using h
  | cons j l ih =>
    intro m n p h hj
    simp only [List.foldl_cons]
    refine ih _ n p ?_ (fun k hk => hj k (by simp [hk]))
    split
    ·exact h
    ·have := hj j (by simp); omega
 exact h _ 0 ops.size _ (Nat.zero_le _) (fun j hj => List.mem_range.1 hj)
theorem flags_get {ops : Array Oper} {ros : List RO} {m i : Nat} {q : Bool} (hi : i < m) (h : ((flags ops ros m)[i]?).map (·.2) = some q) : zFu (masks ops.toList) ros m i = q := by
 unfold flags at h
 rw [List.getElem?_take_of_lt hi] at h
 simp only [List.zip, List.getElem?_zipWith, List.getElem?_map] at h
 cases h1 : ros[i]? with
 | none => simp [h1] at h
 | some x => simpa [h1, List.getElem?_range hi] using h
theorem flags_fst {ops : Array Oper} {ros : List RO} {m : Nat} (h : m ≤ ros.length) : (flags ops ros m).map (·.1) = ros.take m := by
 unfold flags
 refine List.ext_getElem? fun i => ?_
 rcases Nat.lt_or_ge i m with hi | hi
 ·simp only [List.getElem?_map, List.getElem?_take_of_lt hi, List.zip, List.getElem?_zipWith]
  rw [List.getElem?_range hi, List.getElem?_eq_getElem (show i < ros.length by omega)]
  rfl
 ·rw [List.getElem?_map, List.getElem?_eq_none (by simp; omega), List.getElem?_eq_none (by simp; omega)]
  rfl
theorem swp_regD {Q : Ex → St → Prop} {s : St} {qs : List (RO × Bool)} {ros : List RO} (h : opsQ C.M qs (fun s1 => opsWp C.M ros (fun s' => Q .normal s'.done) s1) s) : SWp C (.regD qs ros) Q s := by
 refine ⟨fun c hc w0 B hA a w hs => ?_⟩
 have hreg : ∀ id ops d, c = .region id ops d → _ := fun id ops d e => zA8 (e ▸ hc)
 cases c <;> (try simp only [zAe] at hc) <;> (try (cases hc; done))
 case region id ops d =>
  rcases hreg _ _ _ rfl with ⟨r, h1, _⟩ | ⟨r, h1, rfl, hB1, hB2, hr⟩ | h1
  ·cases h1
  ·cases h1
   have hB := And.intro hB1 hB2
   ·skip
    rw [List.range_eq_range'] at hr
    have hl : s.env.length = C.pers.length := by obtain ⟨_, _, _, _, _, q, _⟩ := hs; exact q
    have hrl : zB9 ops ≤ r.length := by rw [zCf _ _ hr]; simpa using zDt ops
    obtain ⟨ds, σ, hps, s1, k1, k2, k2', k3, k4, k5, k6⟩ := opsQ_trace (zB9 ops) 0 _ _ s (zFr _ _ 0 _ hr (zDt ops)) (flags_fst hrl) hl h
    have hsig : ∀ i, i ≤ zB9 ops → σ i = sig ops (s.slot C.pers) ds (fun _ => true) i := by
     intro i
     induction i with
     | zero => intro _; exact k4
     | succ i ih =>
       intro hi
       obtain ⟨o, q, q1, _, _, _, q3⟩ := k6 i (Nat.zero_le _) (by omega)
       rw [q3, ih (by omega)]
       simp [sig, dstO, q1]
    refine fun ro => wpIn_region_any hB.2 (draw_sound ⟨hA, lift_pq⟩ (s := s) (s1 := s1) (K := fun s' => Q .normal s'.done) (ds := ds) (hps := hps) (m := zB9 ops) (ros := r) hB.1 (zDt ops) hr (fun s a w hk hs => ⟨s.done, weak_done _ _ _ _ hs, hk⟩) hl rfl k1 (by rw [← k2', Nat.zero_add]) k3 (fun i hi hf => ?_) (fun i hi => ?_) ?_ ops.size _ a _ (by simp) ?_ ?_ (.inl ⟨?_, ?_⟩))
    ·obtain ⟨o, q, q1, q2, q3, _⟩ := k6 i (Nat.zero_le _) (by omega)
     exact q3 ((flags_get hi (by simpa using q2)) ▸ hf)
    ·obtain ⟨o, q, q1, _, _, q2, _⟩ := k6 i (Nat.zero_le _) (by omega)
     rw [hsig i (by omega)] at q2
     exact ⟨o, q1, q2⟩
    ·rw [← hsig _ (Nat.le_refl _), ← k5, Nat.zero_add]
    ·simp only [unl, Array.toList_replicate]
     exact Nat.le_trans (List.length_filter_le _ _) (by simp)
    ·intro j oj hj hlj
     exfalso
     have : (Array.replicate ops.size false).getD j false = false := by
      simp only [Array.getD_eq_getD_getElem?, Array.getElem?_replicate]; split <;> rfl
     rw [this] at hlj; cases hlj
    ·intro j hlj
     exfalso
     have : (Array.replicate ops.size false).getD j false = false := by
      simp only [Array.getD_eq_getD_getElem?, Array.getElem?_replicate]; split <;> rfl
     rw [this] at hlj; cases hlj
    ·obtain ⟨G, g0, gb, g1, g2, g3, g4⟩ := hs
     have hrep : ∀ j, (Array.replicate ops.size false).getD j false = false := by
      intro j
      simp only [Array.getD_eq_getD_getElem?, Array.getElem?_replicate]; split <;> rfl
     have e : sig ops (s.slot C.pers) ds (fun j => (Array.replicate ops.size false).getD j false) (zB9 ops) = s.slot C.pers := by
      funext t
      exact zD4 (ops := ops) (σ0 := s.slot C.pers) (ds := ds) (E := fun j => (Array.replicate ops.size false).getD j false) (t := t) (a := 0) (zB9 ops) (Nat.zero_le _) (fun j _ _ hE => by
       rw [hrep] at hE; cases hE)
     rw [e, hpE_none _ (fun j _ => hrep j), k2]
     obtain ⟨q1, q2⟩ := g0.drawn (w.drawn + 1)
     exact ⟨G, q1, gb, g1, g2, fun t => Rel.evo _ q2 (g4 t)⟩
  ·cases h1
 all_goals exfalso; (repeat' split at hc) <;> simp_all
end
end GoV
end
section
set_option linter.unusedSimpArgs false
namespace GoV
open Go
def cutF (n : Nat) (b : Nat) : Option Nat := if b < n then some b else none
def Blk.rnL (β τ : Nat → Option Nat) : List Blk → List Blk
 | [] => []
 | B :: r => B.rn β τ :: Blk.rnL β τ r
def Tv.rnL (β τ : Nat → Option Nat) : List Tv → List Tv
 | [] => []
 | V :: r => V.rn β τ :: Tv.rnL β τ r
theorem Blk.rnL_eq (β τ : Nat → Option Nat) (l : List Blk) : Blk.rnL β τ l = l.map (Blk.rn β τ) := by
 induction l with
 | nil => rfl
 | cons a l ih => simp [Blk.rnL, ih]
theorem Tv.rnL_eq (β τ : Nat → Option Nat) (l : List Tv) : Tv.rnL β τ l = l.map (Tv.rn β τ) := by
 induction l with
 | nil => rfl
 | cons a l ih => simp [Tv.rnL, ih]
def Hp.cut (hp : Hp) (n m : Nat) : Hp := ⟨Blk.rnL (cutF n) (cutF m) (hp.H.take n), Tv.rnL (cutF n) (cutF m) (hp.tk.take m)⟩
def Gh.cut (g : Gh) (n m : Nat) : Gh := ⟨g.r.take n, g.tk.take m, g.I⟩
theorem zFa (β τ : Nat → Option Nat) : ∀ l : List D, (D.rnL β τ l).length = l.length
 | [] => rfl
 | d :: l => by simp [D.rnL, zFa β τ l]
theorem pairs_fst (β τ : Nat → Option Nat) : ∀ l : List (D × D × Nat), (pairs β τ l).map (·.1) = D.rnL β τ (l.map (·.1))
 | [] => rfl
 | (a, b, n) :: l => by simp [pairs, D.rnL, pairs_fst β τ l]
theorem pairs_snd (β τ : Nat → Option Nat) : ∀ l : List (D × D × Nat), (pairs β τ l).map (·.2.1) = D.rnL β τ (l.map (·.2.1))
 | [] => rfl
 | (a, b, n) :: l => by simp [pairs, D.rnL, pairs_snd β τ l]
theorem pairs_born (β τ : Nat → Option Nat) : ∀ l : List (D × D × Nat), (pairs β τ l).map (·.2.2) = l.map (·.2.2)
 | [] => rfl
 | (a, b, n) :: l => by simp [pairs, pairs_born β τ l]
theorem BlkRel.rn {w : World} {g g' : Gh} {β τ : Nat → Option Nat} {B : Blk} {o : Option Obj} (he : Ren β τ g g') (h : BlkRel w g B o) : BlkRel w g' (B.rn β τ) o := by
 cases B with
 | cells cs =>
   obtain ⟨xs, e, h1, h2, h3⟩ := h
   exact ⟨xs, e, h1, RelL.rn cs he h2, h3⟩
 | gone => trivial
 | map es clock =>
   obtain ⟨ents, h1, h2, h3, h4⟩ := h
   exact ⟨ents, h1, by rw [pairs_fst]; exact RelL.rn _ he h2, by rw [pairs_snd]; exact RelL.rn _ he h3, by rw [pairs_born]; exact h4⟩
 | miter m s seen st =>
   obtain ⟨n, h1, h2⟩ := h
   simp only [Blk.rn]
   cases hm : β m with
   | none => trivial
   | some c => exact ⟨n, he.r m c n hm h1, h2⟩
 | raw x => exact h
 | tcells e cs =>
   obtain ⟨xs, h1, h2, h3⟩ := h
   exact ⟨xs, h1, RelL.rn cs he h2, h3⟩
theorem TvRel.rn {w : World} {g g' : Gh} {β τ : Nat → Option Nat} {T : Tk} {V : Tv} (he : Ren β τ g g') (h : TvRel w g T V) : TvRel w g' T (V.rn β τ) := by
 cases V with
 | per k len => exact ⟨h.1, h.2.1, fun b hb o ho => h.2.2 b hb o (by rw [← he.I]; exact ho)⟩
 | chg k cs =>
   refine ⟨h.1, by rw [zFa]; exact h.2.1, h.2.2.1, fun b hb => ⟨fun o ho => (h.2.2.2 b hb).1 o (by rw [← he.I]; exact ho), ?_⟩⟩
   obtain ⟨xs, e, h1, h2⟩ := (h.2.2.2 b hb).2
   exact ⟨xs, e, h1, RelL.rn cs he h2⟩
 | byt e bs => exact ⟨h.1, h.2.1, h.2.2.1, fun b hb => ⟨fun o ho => (h.2.2.2 b hb).1 o (by rw [← he.I]; exact ho), (h.2.2.2 b hb).2⟩⟩
theorem Ren.cut (g : Gh) (n m : Nat) : Ren (cutF n) (cutF m) g (g.cut n m) := by
 refine ⟨rfl, fun b b' k h1 h2 => ?_, fun t t' T h1 h2 => ?_⟩
 ·unfold cutF at h1
  split at h1
  ·rename_i hlt
   cases h1
   show (g.r.take n)[b]? = some k
   rw [List.getElem?_take, if_pos hlt]; exact h2
  ·cases h1
 ·unfold cutF at h1
  split at h1
  ·rename_i hlt
   cases h1
   show (g.tk.take m)[t]? = some T
   rw [List.getElem?_take, if_pos hlt]; exact h2
  ·cases h1
theorem zD3 {α : Type} {l : List α} {n i : Nat} {x : α} (h : (l.take n)[i]? = some x) : l[i]? = some x ∧ i < n := by
 rw [List.getElem?_take] at h
 split at h
 ·exact ⟨h, by assumption⟩
 ·cases h
theorem blks_take {l : List Tk} {m n : Nat} (h : n ∈ blks (l.take m)) : n ∈ blks l := by
 obtain ⟨T, h1, h2⟩ := mem_blks.1 h
 exact mem_blks.2 ⟨T, List.mem_of_mem_take h1, h2⟩
theorem Inv.cut {w0 B hp w G} (h : Inv w0 B hp w G) (n m : Nat) (hn : B.r.length ≤ n) (hm : B.tk.length ≤ m) : Inv w0 B (hp.cut n m) w (G.cut n m) := by
 have h0 := h.heap
 have hr := Ren.cut G n m
 have hh : HeapRel w (G.cut n m) (hp.cut n m) := by
  refine ⟨?_, fun b C k hC hk => ?_, fun k hk => h0.lt k (List.mem_of_mem_take hk), h0.nodup.sublist (List.take_sublist _ _), ?_, fun t V T hV hT => ?_, fun T hT => ?_, ?_, fun b o ho => ⟨(h0.imm b o ho).1, fun i hi => ?_⟩⟩
  ·simp [Hp.cut, Gh.cut, Blk.rnL_eq, h0.len]
  ·simp only [Hp.cut, Blk.rnL_eq, List.getElem?_map, Option.map_eq_some_iff] at hC
   obtain ⟨C', h1, rfl⟩ := hC
   obtain ⟨h1, _⟩ := zD3 h1
   obtain ⟨h2, _⟩ := zD3 hk
   exact (h0.blk b C' k h1 h2).rn hr
  ·simp [Hp.cut, Gh.cut, Tv.rnL_eq, h0.lent]
  ·simp only [Hp.cut, Tv.rnL_eq, List.getElem?_map, Option.map_eq_some_iff] at hV
   obtain ⟨V', h1, rfl⟩ := hV
   obtain ⟨h1, _⟩ := zD3 h1
   obtain ⟨h2, _⟩ := zD3 hT
   exact (h0.tv t V' T h1 h2).rn hr
  ·exact (h0.tok T (List.mem_of_mem_take hT)).keep (fun _ _ => rfl) fun b _ hb hm => hb (List.mem_of_mem_take hm)
  ·show (blks (G.tk.take m)).Nodup
   unfold blks
   exact h0.tokd.sublist ((List.take_sublist _ _).filterMap _)
  ·obtain ⟨h2, h3⟩ := zD3 hi
   have := (h0.imm b o ho).2 i h2
   simp only [Hp.cut, Blk.rnL_eq, List.getElem?_map, List.getElem?_take, if_pos h3, this, Option.map_some]
   rfl
 refine h.ghost hh ⟨h.evo.imm, fun b k hb => ?_, fun t T hT => ?_⟩ (fun k hk => .inl (List.mem_of_mem_take hk)) (fun k hk => .inl (blks_take hk)) (fun b o ho => .inl ho)
 ·show (G.r.take n)[b]? = some k
  have := zAd hb
  rw [List.getElem?_take, if_pos (by omega)]; exact h.evo.ref b k hb
 ·obtain ⟨T', h1, h2⟩ := h.evo.tok t T hT
  refine ⟨T', ?_, h2⟩
  have := zAd hT
  show (G.tk.take m)[t]? = some T'
  rw [List.getElem?_take, if_pos (by omega)]; exact h1
theorem Inv.none {w0 hp w G} {I : Nat → Nat → Prop} (h : Inv w0 ⟨[], [], I⟩ hp w G) : Inv w0 ⟨[], [], I⟩ ⟨[], []⟩ w G.cl := by
 have := h.cut 0 0 (Nat.le_refl _) (Nat.le_refl _)
 simpa [Hp.cut, Gh.cut, Gh.cl, Blk.rnL, Tv.rnL] using this
def St.gc (s : St) (n m : Nat) : St := ⟨D.rnL (cutF n) (cutF m) s.env, [], s.hp.cut n m⟩
theorem rnL_getD (β τ : Nat → Option Nat) : ∀ (l : List D) (i : Nat), (D.rnL β τ l).getD i .u0 = (l.getD i .u0).rn β τ
 | [], i => by simp [D.rnL, D.rn]
 | d :: l, 0 => by simp [D.rnL]
 | d :: l, i + 1 => by simpa [D.rnL] using rnL_getD β τ l i
theorem zD1 {C : Cfg} {s : St} (n m : Nat) (hn : C.n0 ≤ n) (hm : C.m0 ≤ m) : Weak C s (s.gc n m) := by
 intro w0 B a w h
 obtain ⟨G, g0, gb, g1, g2, g3, g4⟩ := h
 refine ⟨G.cut n m, g0.cut n m (by rw [gb.1]; exact hn) (by rw [gb.2]; exact hm), gb, g1, g2, by simpa [St.gc, zFa] using g3, fun t => ?_⟩
 have := g4 t
 unfold St.slot at *
 split
 ·rename_i i hi
  rw [hi] at this
  simp only [St.gc, rnL_getD]
  exact Rel.rn _ (Ren.cut G n m) this
 ·simp [St.gc, lk, Rel]
theorem weak_new {C : Cfg} {s : St} (i k : Nat) (hk : 0 < k) (chg : Bool) (hs : s.env.getD i .u0 = .lit (.slice none 0 0)) :
 Weak C s ⟨s.env.set i (if chg then .gs s.hp.tk.length 0 else .slice [] (.tok s.hp.tk.length)), [], { s.hp with tk := s.hp.tk ++ [if chg then .chg k [] else .per k 0] }⟩ := by
 intro w0 B a w h
 obtain ⟨G, g0, gb, g1, g2, g3, g4⟩ := h
 obtain ⟨q1, q2⟩ := g0.tokFull (len := 0) (a := none) hk (if chg then .chg k [] else .per k 0) (by cases chg <;> simp)
 refine ⟨_, q1, gb, g1, g2, by simpa using g3, fun t => ?_⟩
 have := g4 t
 unfold St.slot at *
 split
 ·rename_i j hj
  rw [hj] at this
  simp only at this ⊢
  by_cases e : i = j
  ·subst e
   rw [hs] at this
   simp only [Rel] at this
   have hl : i < s.env.length := by
    rcases Nat.lt_or_ge i s.env.length with q | q
    ·exact q
    ·simp [List.getD, List.getElem?_eq_none q] at hs
   have e1 : (s.env.set i (if chg then D.gs s.hp.tk.length 0 else .slice [] (.tok s.hp.tk.length))).getD i .u0 = (if chg then D.gs s.hp.tk.length 0 else .slice [] (.tok s.hp.tk.length)) := by
    simp [List.getD, hl]
   rw [e1, g0.heap.lent]
   cases chg
   ·simp only [Bool.false_eq_true, if_false, Rel]
    refine ⟨⟨0, 0, none⟩, 0, k, [], .inr ⟨this.1, by simp, rfl⟩, by simp, RelL.nil, by simp, ⟨fun _ => rfl, by simp [flat]⟩, ?_⟩
    exact ⟨_, zDp _ _, rfl, by simp, fun _ => by rw [this.1]; rfl⟩
   ·simp only [if_true, Rel]
    exact ⟨none, 0, _, this.1, by simp, zDp _ _, by simp, fun _ => by simp⟩
  ·have e1 : (s.env.set i (if chg then D.gs s.hp.tk.length 0 else .slice [] (.tok s.hp.tk.length))).getD j .u0 = s.env.getD j .u0 := by
    simp [List.getD, List.getElem?_set, e]
   rw [e1]
   exact Rel.evo _ q2 this
 ·simp [lk, Rel]
mutual
def D.fz (b : Nat) (cs : List D) : D → D
 | .ptr c o => if c = b then .ip (cs.drop o) else .ptr c o
 | .sl c k o l cap => if c = b then (if o + l * k ≤ cs.length ∧ l ≤ cap ∧ zAh k (chunk k l (cs.drop o)) = true then .slice (chunk k l (cs.drop o)) (if cap = l then .full else .no) else .u0) else .sl c k o l cap
 | .agg ds => .agg (D.fzL b cs ds)
 | .tup vs => .tup (D.fzL b cs vs)
 | .iface t d => .iface t (D.fz b cs d)
 | .fn f a c => .fn f (D.fzL b cs a) (D.fzL b cs c)
 | .u0 => .u0
 | .skip => .skip
 | .int k n => .int k n
 | .bool v => .bool v
 | .str s => .str s
 | .lit v => .lit v
 | .slice es o => .slice es o
 | .ip ds => .ip ds
 | .gs t n => .gs t n
 | .gp t n o => .gp t n o
 | .mp c => .mp c
def D.fzL (b : Nat) (cs : List D) : List D → List D
 | [] => []
 | d :: ds => D.fz b cs d :: D.fzL b cs ds
end
mutual
def D.fzt (t k n : Nat) (cs : List D) : D → D
 | .gs u m => if u = t then (if m = n then .slice (chunk k n cs) (.tok t) else .u0) else .gs u m
 | .gp u m o => if u = t then (if m = n then .ip (cs.drop o) else .u0) else .gp u m o
 | .agg ds => .agg (D.fztL t k n cs ds)
 | .tup vs => .tup (D.fztL t k n cs vs)
 | .iface u d => .iface u (D.fzt t k n cs d)
 | .fn f a c => .fn f (D.fztL t k n cs a) (D.fztL t k n cs c)
 | .u0 => .u0
 | .skip => .skip
 | .int k n => .int k n
 | .bool v => .bool v
 | .str s => .str s
 | .lit v => .lit v
 | .slice es o => .slice es o
 | .ip ds => .ip ds
 | .ptr b o => .ptr b o
 | .sl c k o l cap => .sl c k o l cap
 | .mp c => .mp c
def D.fztL (t k n : Nat) (cs : List D) : List D → List D
 | [] => []
 | d :: ds => D.fzt t k n cs d :: D.fztL t k n cs ds
end
def Blk.mapD (f : D → D) : Blk → Blk
 | .cells cs => .cells (cs.map f)
 | .gone => .gone
 | .map es c => .map (es.map fun p => (f p.1, f p.2.1, p.2.2)) c
 | .miter m s seen st => .miter m s seen st
 | .raw x => .raw x
 | .tcells e cs => .tcells e (cs.map f)
def Tv.mapD (f : D → D) : Tv → Tv
 | .per k n => .per k n
 | .chg k cs => .chg k (cs.map f)
 | .byt e bs => .byt e bs
theorem zFc {w w' : World} {g g' : Gh} {f : D → D} (hf : ∀ d x, Rel w g d x → Rel w' g' (f d) x) : ∀ {ds : List D} {xs : List Value}, RelL w g ds xs → RelL w' g' (ds.map f) xs
 | [], xs, h => by rw [h.inv_nil]; exact RelL.nil
 | d :: ds, xs, h => by
   obtain ⟨y, ys, rfl, h1, h2⟩ := h.inv
   exact RelL.cons (hf d y h1) (zFc hf h2)
theorem BlkRel.mapD {w w' : World} {g g' : Gh} {f : D → D} (hf : ∀ d x, Rel w g d x → Rel w' g' (f d) x) (hrr : ∀ (b n : Nat), g.r[b]? = some n → g'.r[b]? = some n) {B : Blk} {o : Option Obj} (h : BlkRel w g B o) : BlkRel w' g' (B.mapD f) o := by
 cases B with
 | cells cs =>
   obtain ⟨xs, e, h1, h2, h3⟩ := h
   exact ⟨xs, e, h1, zFc hf h2, h3⟩
 | gone => trivial
 | map es clock =>
   obtain ⟨ents, h1, h2, h3, h4⟩ := h
   refine ⟨ents, h1, ?_, ?_, ?_⟩
   ·have := zFc hf h2
    simpa [List.map_map, Function.comp_def] using this
   ·have := zFc hf h3
    simpa [List.map_map, Function.comp_def] using this
   ·simpa [List.map_map, Function.comp_def] using h4
 | miter m s seen st =>
   obtain ⟨n, h1, h2⟩ := h
   exact ⟨n, hrr m n h1, h2⟩
 | raw x => exact h
 | tcells e cs =>
   obtain ⟨xs, h1, h2, h3⟩ := h
   exact ⟨xs, h1, zFc hf h2, h3⟩
theorem TvRel.mapD {w : World} {g g' : Gh} {f : D → D} (hf : ∀ d x, Rel w g d x → Rel w g' (f d) x) {T : Tk} {V : Tv} (hI : ∀ b, T.blk = some b → ∀ o, g'.I b o → g.I b o) (h : TvRel w g T V) : TvRel w g' T (V.mapD f) := by
 cases V with
 | per k len => exact ⟨h.1, h.2.1, fun b hb o ho => h.2.2 b hb o (hI b hb o ho)⟩
 | chg k cs =>
   refine ⟨h.1, by simpa using h.2.1, h.2.2.1, fun b hb => ⟨fun o ho => (h.2.2.2 b hb).1 o (hI b hb o ho), ?_⟩⟩
   obtain ⟨xs, e, h1, h2⟩ := (h.2.2.2 b hb).2
   exact ⟨xs, e, h1, zFc hf h2⟩
 | byt e bs => exact ⟨h.1, h.2.1, h.2.2.1, fun b hb => ⟨fun o ho => (h.2.2.2 b hb).1 o (hI b hb o ho), (h.2.2.2 b hb).2⟩⟩
theorem erL_length : ∀ l : List D, (D.erL l).length = l.length
 | [] => rfl
 | d :: l => by simp [D.erL, erL_length l]
mutual
theorem fz_rel {w : World} {g g' : Gh} {b n : Nat} {cs : List D} {xs : List Value} (hr : g'.r = g.r) (ht : g'.tk = g.tk) (he : Evo w g w g') (hb : g.r[b]? = some n) (hc : RelL w g'.cl cs xs) (hA : At w g'.I ⟨n, 0, none⟩ xs) :
 ∀ (d : D) {x : Value}, Rel w g d x → Rel w g' (D.fz b cs d) x
 | .ptr c o, x, h => by
   simp only [Rel, D.fz] at h ⊢
   obtain ⟨k, h1, h2⟩ := h
   by_cases e : c = b
   ·subst e
    rw [hb] at h1; cases h1
    simp only [if_true, Rel]
    refine ⟨_, xs.drop o, h2, hc.drop o, ?_⟩
    have := hA.drop o
    simpa using this
   ·simp only [e, if_false, Rel]; exact ⟨k, by rw [hr]; exact h1, h2⟩
 | .sl c k o l cap, x, h => by
   simp only [Rel, D.fz] at h ⊢
   obtain ⟨m, o', h1, h2, h3⟩ := h
   by_cases e : c = b
   ·subst e
    rw [hb] at h1; cases h1
    simp only [if_true]
    split
    ·rename_i hh
     obtain ⟨c1, c2, c3⟩ := hh
     have hl := hc.length
     have ho : ∀ y ∈ xs, oneC y := fun y hy => by
      obtain ⟨j, hj⟩ := List.mem_iff_getElem?.1 hy
      exact (hA.2 j y hj).2.2
     obtain ⟨q1, q2, q3⟩ := zE3 (w := w) (g := g'.cl) (k := k) l (cs.drop o) (xs.drop o) (hc.drop o) (fun y hy => ho y (List.mem_of_mem_drop hy)) (by simp; omega)
     simp only [Rel]
     refine ⟨⟨n, o', none⟩, cap, k, _, .inl (by rw [zAt]; exact h2), by rw [zAt]; exact c2, q1, q2, ?_, ?_⟩
     ·refine ⟨fun _ => rfl, fun j y hj => ?_⟩
      rw [q3] at hj
      obtain ⟨hj, hlt⟩ := zD3 hj
      rw [List.getElem?_drop] at hj
      have hcap : 0 < cap := by
       rcases Nat.eq_zero_or_pos l with q | q
       ·subst q; simp at hlt
       ·omega
      have := h3 hcap
      subst this
      have := hA.2 (o' + j) y hj
      simpa using this
     ·by_cases e : cap = l
      ·simp only [e, if_true]; show _ = _; rw [zAt]
      ·simp only [e, if_false]; trivial
    ·simp [Rel]
   ·simp only [e, if_false, Rel]; exact ⟨m, o', by rw [hr]; exact h1, h2, h3⟩
 | .agg ds, x, h => by
   simp only [Rel, D.fz] at h ⊢
   obtain ⟨ys, h1, h2, h3⟩ := h
   exact ⟨ys, h1, fzL_rel hr ht he hb hc hA ds h2, h3⟩
 | .tup ds, x, h => by
   simp only [Rel, D.fz] at h ⊢
   obtain ⟨ys, h1, h2⟩ := h
   exact ⟨ys, h1, fzL_rel hr ht he hb hc hA ds h2⟩
 | .iface t d, x, h => by
   simp only [Rel, D.fz] at h ⊢
   obtain ⟨y, h1, h2⟩ := h
   exact ⟨y, h1, fz_rel hr ht he hb hc hA d h2⟩
 | .fn f a c, x, h => by
   simp only [Rel, D.fz] at h ⊢
   obtain ⟨ys, zs, h1, h2, h3⟩ := h
   exact ⟨ys, zs, h1, fzL_rel hr ht he hb hc hA a h2, fzL_rel hr ht he hb hc hA c h3⟩
 | .u0, x, h => by simp [Rel, D.fz]
 | .skip, x, h => by simpa [Rel, D.fz] using h
 | .int _ _, x, h => by simpa [Rel, D.fz] using h
 | .bool _, x, h => by simpa [Rel, D.fz] using h
 | .str _, x, h => by simpa [Rel, D.fz] using h
 | .lit _, x, h => by simpa [Rel, D.fz] using h
 | .slice es o, x, h => by simpa [D.fz] using Rel.evo _ he h
 | .ip ds, x, h => by simpa [D.fz] using Rel.evo _ he h
 | .gs t m, x, h => by simpa [D.fz] using Rel.evo _ he h
 | .gp t m o, x, h => by simpa [D.fz] using Rel.evo _ he h
 | .mp c, x, h => by simpa [D.fz] using Rel.evo _ he h
theorem fzL_rel {w : World} {g g' : Gh} {b n : Nat} {cs : List D} {xs : List Value} (hr : g'.r = g.r) (ht : g'.tk = g.tk) (he : Evo w g w g') (hb : g.r[b]? = some n) (hc : RelL w g'.cl cs xs) (hA : At w g'.I ⟨n, 0, none⟩ xs) :
 ∀ (ds : List D) {ys : List Value}, RelL w g ds ys → RelL w g' (D.fzL b cs ds) ys
 | [], ys, h => by rw [h.inv_nil]; simp [D.fzL, RelL.nil]
 | d :: ds, ys, h => by
   obtain ⟨z, zs, rfl, h1, h2⟩ := h.inv
   simp only [D.fzL]
   exact RelL.cons (fz_rel hr ht he hb hc hA d h1) (fzL_rel hr ht he hb hc hA ds h2)
end
def St.frz (s : St) (b : Nat) (cs : List D) : St := ⟨s.env.map (D.fz b cs), [], ⟨(s.hp.H.map (Blk.mapD (D.fz b cs))).set b .gone, s.hp.tk.map (Tv.mapD (D.fz b cs))⟩⟩
theorem zE7 {C : Cfg} {s : St} (b : Nat) (cs : List D) (hb : s.hp.H[b]? = some (.cells cs)) (hn : C.n0 ≤ b) (hc : D.cL cs = true) : Weak C s (s.frz b (D.erL cs)) := by
 intro w0 B a w h
 obtain ⟨G, g0, gb, g1, g2, g3, g4⟩ := h
 have h0 := g0.heap
 obtain ⟨n, hbn⟩ : ∃ n, G.r[b]? = some n := ⟨_, List.getElem?_eq_getElem (by rw [← h0.len]; exact zAd hb)⟩
 obtain ⟨xs, e, h1, h2, h3⟩ := h0.blk b _ n hb hbn
 have hnm := List.mem_of_getElem? hbn
 have hnew : w0.heap.size ≤ n ∨ n ∈ blks B.tk := by
  rcases g0.newr n hnm with q | q
  ·exfalso
   obtain ⟨j, hj⟩ := List.mem_iff_getElem?.1 q
   have := zDx h0.nodup hbn (g0.evo.ref j n hj)
   have := zAd hj
   omega
  ·exact .inl q
 have he : Evo w G w (G.fix n xs.length) := ⟨fun c o hi => ⟨.inl hi, rfl⟩, fun _ _ h => h, fun _ T h => ⟨T, h, rfl, .inl rfl⟩⟩
 have hcl : RelL w (G.fix n xs.length).cl (D.erL cs) xs := RelL.evo _ he.cl (RelL.closed _ hc h2)
 have hA : At w (G.fix n xs.length).I ⟨n, 0, none⟩ xs := by
  refine ⟨fun _ => rfl, fun j y hj => ⟨?_, .inr ⟨rfl, by simpa using zAd hj⟩, h3 y (List.mem_of_getElem? hj)⟩⟩
  rw [Nat.zero_add, zCm h1]; simpa using hj
 have hf : ∀ d x, Rel w G d x → Rel w (G.fix n xs.length) (D.fz b (D.erL cs) d) x := fun d x hd => fz_rel (g := G) (g' := G.fix n xs.length) rfl rfl he hbn hcl hA d hd
 have hnt : ∀ T ∈ G.tk, T.blk ≠ some n := fun T hT e => ((h0.tok T hT).2.2 n e).2.1 hnm
 have hh : HeapRel w (G.fix n xs.length) (s.frz b (D.erL cs)).hp := by
  refine ⟨by simp [St.frz, Gh.fix, h0.len], fun c C k hC hk => ?_, h0.lt, h0.nodup, by simp [St.frz, Gh.fix, h0.lent], fun t V T hV hT => ?_, fun T hT => (h0.tok T hT).keep (fun _ _ => rfl) fun _ _ hb => hb, h0.tokd, fun c o ho => ?_⟩
  ·simp only [St.frz, List.getElem?_set, List.getElem?_map, List.length_map] at hC
   by_cases e : b = c
   ·subst e
    simp [zAd hb] at hC
    subst hC; trivial
   ·rw [if_neg e] at hC
    simp only [Option.map_eq_some_iff] at hC
    obtain ⟨C', q1, rfl⟩ := hC
    exact (h0.blk c C' k q1 hk).mapD hf fun _ _ h => h
  ·simp only [St.frz, List.getElem?_map, Option.map_eq_some_iff] at hV
   obtain ⟨V', q1, rfl⟩ := hV
   refine (h0.tv t V' T q1 hT).mapD hf fun c hc o ho => ?_
   rcases ho with q | q
   ·exact q
   ·exact absurd (q.1 ▸ hc) (hnt T (List.mem_of_getElem? hT))
  ·rcases ho with q | ⟨rfl, q⟩
   ·refine ⟨(h0.imm c o q).1, fun i hi => ?_⟩
    have := (h0.imm c o q).2 i hi
    simp only [St.frz, List.getElem?_set, List.getElem?_map, List.length_map]
    split
    ·simp [zAd hb]
    ·rw [this]; rfl
   ·refine ⟨h0.lt c hnm, fun i hi => ?_⟩
    have := zDx h0.nodup hbn hi
    subst this
    simp [St.frz, List.getElem?_set, zAd hb]
 have hinv : Inv w0 B (s.frz b (D.erL cs)).hp w (G.fix n xs.length) := by
  refine g0.ghost hh (g0.evo.trans he) (fun k hk => .inl hk) (fun k hk => .inl hk) fun c o ho => ?_
  rcases ho with q | ⟨rfl, _⟩
  ·exact .inl q
  ·exact .inr hnew
 refine ⟨_, hinv, gb, g1, g2, by simpa [St.frz] using g3, fun t => ?_⟩
 have := g4 t
 unfold St.slot at *
 split
 ·rename_i i hi
  rw [hi] at this
  have e1 : (s.frz b (D.erL cs)).env.getD i .u0 = D.fz b (D.erL cs) (s.env.getD i .u0) := by
   simp only [St.frz, List.getD, List.getElem?_map]
   cases s.env[i]? <;> simp [D.fz]
  simp only [e1]
  exact hf _ _ this
 ·simp [St.frz, lk, Rel]
mutual
theorem fzt_rel {w : World} {g g' : Gh} {t : Nat} {T : Tk} {cs : List D} {xs : List Value} (hr : g'.r = g.r) (htk : g'.tk = g.tk) (he : Evo w g w g') (hT : g.tk[t]? = some T) (hk : 0 < T.k) (hc : RelL w g'.cl cs xs) (hl : cs.length = T.len * T.k)
 (ho : ∀ y ∈ xs, oneC y) (hE : zAh T.k (chunk T.k T.len cs) = true) (hle : T.len ≤ T.cap) (hA : (T.addr = none ∧ T.len = 0 ∧ T.cap = 0) ∨ ∃ b, T.blk = some b ∧ T.addr = some ⟨b, 0, none⟩ ∧ At w g'.I ⟨b, 0, none⟩ xs) :
 ∀ (d : D) {x : Value}, Rel w g d x → Rel w g' (D.fzt t T.k T.len cs d) x
 | .gs u m, x, h => by
   simp only [Rel, D.fzt] at h ⊢
   by_cases e : u = t
   ·subst e
    simp only [if_true]
    by_cases em : m = T.len
    ·subst em
     obtain ⟨a, cap, T', h1, h2, h3, h4, h5⟩ := h
     rw [hT] at h3; cases h3
     obtain ⟨rfl, rfl, _⟩ := h5 rfl
     simp only [if_true, Rel]
     obtain ⟨q1, q2, q3⟩ := zE3 (w := w) (g := g'.cl) (k := T.k) T.len cs xs hc ho (by rw [hc.length, hl]; exact Nat.le_refl _)
     have hxl : xs.length = T.len * T.k := by rw [hc.length, hl]
     rw [← hxl, List.take_length] at q3
     rcases hA with ⟨ha, h0, h0'⟩ | ⟨b, hb, ha, hA⟩
     ·refine ⟨⟨0, 0, none⟩, T.cap, T.k, _, .inr ⟨by rw [h1, ha, h0, h0'], ?_, h0'⟩, by rw [zAt]; exact hle, q1, q2, ⟨fun _ => rfl, fun j y hj => ?_⟩, T, by rw [htk]; exact hT, rfl, by rw [zAt]; exact Nat.le_refl _, fun _ => by rw [zAt]; exact h1⟩
      ·rw [h0]; rfl
      ·rw [q3] at hj
       have := zAd hj
       rw [hxl, h0] at this; simp at this
     ·refine ⟨⟨b, 0, none⟩, T.cap, T.k, _, .inl (by rw [zAt, h1, ha]), by rw [zAt]; exact hle, q1, q2, by rw [q3]; exact hA, T, by rw [htk]; exact hT, rfl, by rw [zAt]; exact Nat.le_refl _, fun _ => by rw [zAt]; exact h1⟩
    ·simp [em, Rel]
   ·simp only [e, if_false]
    have : Rel w g (.gs u m) x := by simp only [Rel]; exact h
    exact Rel.evo _ he this
 | .gp u m o, x, h => by
   simp only [Rel, D.fzt] at h ⊢
   by_cases e : u = t
   ·subst e
    simp only [if_true]
    by_cases em : m = T.len
    ·subst em
     obtain ⟨a, T', h1, h3, h4, h5⟩ := h
     rw [hT] at h3; cases h3
     obtain ⟨b, hb, rfl⟩ := h5 rfl
     simp only [if_true, Rel]
     rcases hA with ⟨ha, h0, h0'⟩ | ⟨b', hb', ha, hA⟩
     ·have hx0 : xs = [] := List.eq_nil_of_length_eq_zero (by rw [hc.length, hl, h0]; simp)
      subst hx0
      refine ⟨_, [], h1, ?_, fun _ => rfl, by simp⟩
      have : cs = [] := List.eq_nil_of_length_eq_zero (by rw [hl, h0]; simp)
      subst this
      simpa using RelL.nil
     ·rw [hb] at hb'; cases hb'
      refine ⟨_, xs.drop o, h1, hc.drop o, ?_⟩
      have := hA.drop o
      simpa using this
    ·simp [em, Rel]
   ·simp only [e, if_false]
    have : Rel w g (.gp u m o) x := by simp only [Rel]; exact h
    exact Rel.evo _ he this
 | .agg ds, x, h => by
   simp only [Rel, D.fzt] at h ⊢
   obtain ⟨ys, h1, h2, h3⟩ := h
   exact ⟨ys, h1, zGl hr htk he hT hk hc hl ho hE hle hA ds h2, h3⟩
 | .tup ds, x, h => by
   simp only [Rel, D.fzt] at h ⊢
   obtain ⟨ys, h1, h2⟩ := h
   exact ⟨ys, h1, zGl hr htk he hT hk hc hl ho hE hle hA ds h2⟩
 | .iface t d, x, h => by
   simp only [Rel, D.fzt] at h ⊢
   obtain ⟨y, h1, h2⟩ := h
   exact ⟨y, h1, fzt_rel hr htk he hT hk hc hl ho hE hle hA d h2⟩
 | .fn f a c, x, h => by
   simp only [Rel, D.fzt] at h ⊢
   obtain ⟨ys, zs, h1, h2, h3⟩ := h
   exact ⟨ys, zs, h1, zGl hr htk he hT hk hc hl ho hE hle hA a h2, zGl hr htk he hT hk hc hl ho hE hle hA c h3⟩
 | .u0, x, h => by simp [Rel, D.fzt]
 | .skip, x, h => by simpa [Rel, D.fzt] using h
 | .int _ _, x, h => by simpa [Rel, D.fzt] using h
 | .bool _, x, h => by simpa [Rel, D.fzt] using h
 | .str _, x, h => by simpa [Rel, D.fzt] using h
 | .lit _, x, h => by simpa [Rel, D.fzt] using h
 | .slice es o, x, h => by simpa [D.fzt] using Rel.evo _ he h
 | .ip ds, x, h => by simpa [D.fzt] using Rel.evo _ he h
 | .ptr b o, x, h => by simpa [D.fzt] using Rel.evo _ he h
 | .sl c k o l cap, x, h => by simpa [D.fzt] using Rel.evo _ he h
 | .mp c, x, h => by simpa [D.fzt] using Rel.evo _ he h
theorem zGl {w : World} {g g' : Gh} {t : Nat} {T : Tk} {cs : List D} {xs : List Value} (hr : g'.r = g.r) (htk : g'.tk = g.tk) (he : Evo w g w g') (hT : g.tk[t]? = some T) (hk : 0 < T.k) (hc : RelL w g'.cl cs xs) (hl : cs.length = T.len * T.k)
 (ho : ∀ y ∈ xs, oneC y) (hE : zAh T.k (chunk T.k T.len cs) = true) (hle : T.len ≤ T.cap) (hA : (T.addr = none ∧ T.len = 0 ∧ T.cap = 0) ∨ ∃ b, T.blk = some b ∧ T.addr = some ⟨b, 0, none⟩ ∧ At w g'.I ⟨b, 0, none⟩ xs) :
 ∀ (ds : List D) {ys : List Value}, RelL w g ds ys → RelL w g' (D.fztL t T.k T.len cs ds) ys
 | [], ys, h => by rw [h.inv_nil]; simp [D.fztL, RelL.nil]
 | d :: ds, ys, h => by
   obtain ⟨z, zs, rfl, h1, h2⟩ := h.inv
   simp only [D.fztL]
   exact RelL.cons (fzt_rel hr htk he hT hk hc hl ho hE hle hA d h1) (zGl hr htk he hT hk hc hl ho hE hle hA ds h2)
end
def St.frzT (s : St) (t k n : Nat) (cs : List D) : St := ⟨s.env.map (D.fzt t k n cs), [], ⟨s.hp.H.map (Blk.mapD (D.fzt t k n cs)), (s.hp.tk.map (Tv.mapD (D.fzt t k n cs))).set t (.per k n)⟩⟩
theorem weak_frzT {C : Cfg} {s : St} (t k n : Nat) (cs : List D) (hb : s.hp.tk[t]? = some (.chg k cs)) (hl : cs.length = n * k) (_hn : C.m0 ≤ t) (hc : D.cL cs = true) (hE : zAh k (chunk k n (D.erL cs)) = true) : Weak C s (s.frzT t k n (D.erL cs)) := by
 intro w0 B a w h
 obtain ⟨G, g0, gb, g1, g2, g3, g4⟩ := h
 have h0 := g0.heap
 obtain ⟨T, hT, ⟨hk, hcl, hz, hv⟩, hok⟩ := h0.tokBlk hb
 have hTm := List.mem_of_getElem? hT
 subst hk
 have hn : n = T.len := Nat.eq_of_mul_eq_mul_right hok.1 (hl.symm.trans hcl)
 subst hn
 have main : ∀ (I' : Nat → Nat → Prop) (xs : List Value), (∀ c o, G.I c o → I' c o) → (∀ c o, I' c o → G.I c o ∨ (T.blk = some c ∧ o < T.len * T.k)) → RelL w G cs xs → (∀ y ∈ xs, oneC y) → T.len ≤ T.cap →
  ((T.addr = none ∧ T.len = 0 ∧ T.cap = 0) ∨ ∃ b, T.blk = some b ∧ T.addr = some ⟨b, 0, none⟩ ∧ At w I' ⟨b, 0, none⟩ xs) → Sim C w0 B (s.frzT t T.k T.len (D.erL cs)) a w := by
  intro I' xs hI1 hI2 hrel hone hlc hA
  have he : Evo w G w ⟨G.r, G.tk, I'⟩ := ⟨fun c o hi => ⟨hI1 c o hi, rfl⟩, fun _ _ h => h, fun _ T h => ⟨T, h, rfl, .inl rfl⟩⟩
  have hcl' : RelL w (Gh.cl ⟨G.r, G.tk, I'⟩) (D.erL cs) xs := RelL.evo _ he.cl (RelL.closed _ hc hrel)
  have hf : ∀ d x, Rel w G d x → Rel w ⟨G.r, G.tk, I'⟩ (D.fzt t T.k T.len (D.erL cs) d) x := fun d x hd => fzt_rel (g := G) (g' := ⟨G.r, G.tk, I'⟩) rfl rfl he hT hok.1 hcl' (by rw [erL_length]; exact hcl) hone hE hlc hA d hd
  have hh : HeapRel w ⟨G.r, G.tk, I'⟩ (s.frzT t T.k T.len (D.erL cs)).hp := by
   refine ⟨by simp [St.frzT, h0.len], fun c C' k hC hk => ?_, h0.lt, h0.nodup, by simp [St.frzT, h0.lent], fun u V U hV hU => ?_, fun U hU => (h0.tok U hU).keep (fun _ _ => rfl) fun _ _ hb => hb, h0.tokd, fun c o ho => ?_⟩
   ·simp only [St.frzT, List.getElem?_map, Option.map_eq_some_iff] at hC
    obtain ⟨C'', q1, rfl⟩ := hC
    exact (h0.blk c C'' k q1 hk).mapD hf fun _ _ h => h
   ·simp only [St.frzT, List.getElem?_set, List.getElem?_map, List.length_map] at hV
    by_cases e : t = u
    ·subst e
     rw [hT] at hU; cases hU
     simp [zAd hb] at hV
     subst hV
     refine ⟨rfl, rfl, fun b hb' o ho => ?_⟩
     rcases hI2 b o ho with q | q
     ·exact absurd q ((hv b hb').1 o)
     ·exact q.2
    ·rw [if_neg e] at hV
     simp only [Option.map_eq_some_iff] at hV
     obtain ⟨V', q1, rfl⟩ := hV
     refine (h0.tv u V' U q1 hU).mapD hf fun c hc' o ho => ?_
     rcases hI2 c o ho with q | q
     ·exact q
     ·exact absurd (zDs h0.tokd hT hU q.1 hc') e
   ·rcases hI2 c o ho with q | q
    ·refine ⟨(h0.imm c o q).1, fun i hi => ?_⟩
     have := (h0.imm c o q).2 i hi
     simp only [St.frzT, List.getElem?_map, this]; rfl
    ·refine ⟨hok.lt q.1, fun i hi => absurd (List.mem_of_getElem? hi) ((hok.2.2 c q.1).2.1)⟩
  have hinv : Inv w0 B (s.frzT t T.k T.len (D.erL cs)).hp w ⟨G.r, G.tk, I'⟩ := by
   refine g0.ghost hh (g0.evo.trans he) (fun k hk => .inl hk) (fun k hk => .inl hk) fun c o ho => ?_
   rcases hI2 c o ho with q | q
   ·exact .inl q
   ·have := g0.newt c (mem_blks.2 ⟨T, hTm, q.1⟩)
    exact .inr (this.symm)
  refine ⟨_, hinv, gb, g1, g2, by simpa [St.frzT] using g3, fun u => ?_⟩
  have := g4 u
  unfold St.slot at *
  split
  ·rename_i i hi
   rw [hi] at this
   have e1 : (s.frzT t T.k T.len (D.erL cs)).env.getD i .u0 = D.fzt t T.k T.len (D.erL cs) (s.env.getD i .u0) := by
    simp only [St.frzT, List.getD, List.getElem?_map]
    cases s.env[i]? <;> simp [D.fzt]
   simp only [e1]
   exact hf _ _ this
  ·simp [St.frzT, lk, Rel]
 cases hTb : T.blk with
 | none =>
   obtain ⟨q1, q2⟩ := hz hTb
   have hcap := hok.2.1 hTb
   have hcs : cs = [] := List.eq_nil_of_length_eq_zero (by rw [hcl, q1]; simp)
   subst hcs
   exact main G.I [] (fun _ _ h => h) (fun _ _ h => .inl h) RelL.nil (by simp) (by omega) (.inl ⟨q2, q1, by omega⟩)
 | some b =>
   obtain ⟨hnI, ys, e, h1, h2⟩ := hv b hTb
   obtain ⟨had, _, hlc, ys', e', h3, h4, h5⟩ := hok.2.2 b hTb
   rw [h1] at h3; cases h3
   refine main (fun c o => G.I c o ∨ (c = b ∧ o < T.len * T.k)) _ (fun c o h => .inl h) (fun c o h => h.imp id fun q => ⟨by rw [hTb, q.1], q.2⟩) h2 (fun y hy => h5 y (List.mem_of_mem_take hy)) hlc (.inr ⟨b, hTb, had, fun _ => rfl, fun j y hj => ?_⟩)
   refine ⟨?_, .inr ⟨rfl, by simpa using (zD3 hj).2⟩, h5 y (List.mem_of_mem_take (List.mem_of_getElem? hj))⟩
   rw [Nat.zero_add, zCm h1]; exact zCd hj
end GoV
end
section
set_option linter.unusedSimpArgs false
namespace GoV
open Go
inductive RR where
 | slot (o : Opd)
 | cell (o : Opd) (ag : Bool) (n : Nat)
def resR (C : Cfg) : ResultVar → Option RR
 | .tmp t => (resO C (.tmp t)).map .slot
 | .cell t ty =>
   match resO C (.tmp t), szOf C.P ty, C.P.underlying ty with
   | some o, some n, some d => some (.cell o (zBi d) (if zBi d then n else 1))
   | _, _, _ => none
def resRs (C : Cfg) : List ResultVar → Option (List RR)
 | [] => some []
 | x :: xs => match resR C x, resRs C xs with
   | some y, some ys => some (y :: ys)
   | _, _ => none
def rrWp (r : RR) (s : St) (K : D → Prop) : Prop :=
 match r with
 | .slot o => K (s.get o)
 | .cell o ag n =>
   match s.get o with
   | .ptr b off => ∃ cs, s.hp.H[b]? = some (.cells cs) ∧ off + n ≤ cs.length ∧ K (if ag then .agg ((cs.drop off).take n) else cs.getD off .u0)
   | _ => False
def rrsWp : List RR → St → (List D → Prop) → Prop
 | [], _, K => K []
 | r :: rs, s, K => rrWp r s fun d => rrsWp rs s fun ds => K (d :: ds)
def zBd : List D → D
 | [d] => d
 | ds => .tup ds
def resV (tmps : Array Value) : ResultVar → Sem Value
 | .tmp t => pure (tmps.getD t Go.undef)
 | .cell t ty => do loadVar ty (← asAddr (tmps.getD t Go.undef))
theorem rr_run {C : Cfg} {w0 B G} {s : St} {a : Act} {w : World} (hi : Inv w0 B s.hp w G) (hs : ∀ t, Rel w G (s.slot C.pers t) (a.tmps.getD t Go.undef))
 {x : ResultVar} {r : RR} (hr : resR C x = some r) {K : D → Prop} (h : rrWp r s K) :
 ∃ d v, K d ∧ Rel w G d v ∧ (resV a.tmps x).run C.P w = .ok v w := by
 cases x with
 | tmp t =>
   simp only [resR] at hr
   cases ho : resO C (.tmp t) with
   | none => simp [ho] at hr
   | some o =>
     simp [ho] at hr; subst hr
     exact ⟨_, _, h, zGd hs ho, rfl⟩
 | cell t ty =>
   simp only [resR] at hr
   cases ho : resO C (.tmp t) with
   | none => simp [ho] at hr
   | some o =>
     cases hz : szOf C.P ty with
     | none => simp [ho, hz] at hr
     | some n =>
       cases hu : C.P.underlying ty with
       | none => simp [ho, hz, hu] at hr
       | some d =>
         simp [ho, hz, hu] at hr; subst hr
         have hv := zGd hs ho
         simp only [rrWp] at h
         split at h <;> first
          | exact h.elim
          | skip
         rename_i b off hb
         obtain ⟨cs, h1, h2, h⟩ := h
         rw [hb] at hv
         simp only [Rel] at hv
         obtain ⟨nb, hn, hx⟩ := hv
         have hx' : a.tmps.getD t Go.undef = .pointer (some ⟨nb, off, none⟩) := hx
         obtain ⟨xs, e, _, g2, g3, g4⟩ := blk_cells hi h1 hn
         have hlen := g2.length
         have conv : ∀ v, (Instr.loadAt ty (.pointer (some ⟨nb, off, none⟩))).run C.P w = .ok v w → (loadVar ty ⟨nb, off, none⟩).run C.P w = .ok v w := by
          intro v hv; simpa [Instr.loadAt, Instr.sureAddr] using hv
         cases hd : zBi d <;> simp only [hd, if_true, if_false, Bool.false_eq_true] at h h2
         ·have hlt : off < xs.length := by omega
          refine ⟨_, _, h, g2.getD (List.getElem?_eq_getElem hlt), ?_⟩
          simp [resV, hx', asAddr, conv _ (zCq (P := C.P) hu hd xs[off] nb off (g4 off _ (List.getElem?_eq_getElem hlt)))]
         ·refine ⟨_, .agg ((xs.drop off).take n).toArray, h, ?_, ?_⟩
          ·simp only [Rel]
           exact ⟨_, rfl, (g2.drop off).take n, fun y hy => g3 y (List.mem_of_mem_drop (List.mem_of_mem_take hy))⟩
          ·have hlen2 : ((xs.drop off).take n).length = n := by simp; omega
           have := conv _ (zCp (P := C.P) (w := w) hu hd ((xs.drop off).take n) (by rw [hlen2]; exact hz) nb off (fun j y hj => by
            rw [List.getElem?_take] at hj
            split at hj
            ·rw [List.getElem?_drop] at hj; exact g4 _ _ hj
            ·cases hj))
           simp [resV, hx', asAddr, this]
theorem rrs_run {C : Cfg} {w0 B G} {s : St} {a : Act} {w : World} (hi : Inv w0 B s.hp w G) (hs : ∀ t, Rel w G (s.slot C.pers t) (a.tmps.getD t Go.undef)) :
 ∀ {xs : List ResultVar} {rs : List RR} {K : List D → Prop}, resRs C xs = some rs → rrsWp rs s K →
 ∃ ds vs, K ds ∧ RelL w G ds vs ∧ (xs.mapM (resV a.tmps)).run C.P w = .ok vs w
 | [], rs, K, hr, h => by
   simp [resRs] at hr; subst hr
   exact ⟨[], [], h, RelL.nil, by simp⟩
 | x :: xs, rs, K, hr, h => by
   simp only [resRs] at hr
   cases h1 : resR C x with
   | none => simp [h1] at hr
   | some r =>
     cases h2 : resRs C xs with
     | none => simp [h1, h2] at hr
     | some rs' =>
       simp [h1, h2] at hr; subst hr
       obtain ⟨d, v, k1, k2, k3⟩ := rr_run (a := a) hi hs h1 h
       obtain ⟨ds, vs, k4, k5, k6⟩ := rrs_run (a := a) hi hs h2 k1
       refine ⟨d :: ds, v :: vs, k4, RelL.cons k2 k5, ?_⟩
       rw [List.mapM_cons, Sem.run_bind]
       simp only [k3, Result.andThen_ok, Sem.run_bind, k6, Sem.run_pure]
theorem results_run {C : Cfg} {fn : Func} {w0 B G} {s : St} {a : Act} {w : World} (hi : Inv w0 B s.hp w G) (hs : ∀ t, Rel w G (s.slot C.pers t) (a.tmps.getD t Go.undef))
 {rs : List RR} {K : List D → Prop} (hr : resRs C fn.results.toList = some rs) (h : rrsWp rs s K) :
 ∃ ds v, K ds ∧ Rel w G (zBd ds) v ∧ (results fn a.tmps).run C.P w = .ok v w := by
 obtain ⟨ds, vs, h1, h2, h3⟩ := rrs_run (a := a) hi hs hr h
 have hrun : (fn.results.mapM (resV a.tmps)).run C.P w = .ok vs.toArray w := by
  rw [← Array.toArray_toList (xs := fn.results), List.mapM_toArray, Sem.run_map, h3]
  rfl
 refine ⟨ds, if h : vs.toArray.size = 1 then vs.toArray[0] else .tuple vs.toArray, h1, ?_, ?_⟩
 ·match ds, vs, h2 with
  | [], vs, h2 => rw [h2.inv_nil]; simpa [zBd, Rel] using RelL.nil
  | [d], vs, h2 =>
    obtain ⟨y, ys, rfl, g1, g2⟩ := h2.inv
    rw [g2.inv_nil]; simpa [zBd] using g1
  | d :: e :: l, vs, h2 =>
    have hl := h2.length
    have : vs.toArray.size ≠ 1 := by simp at hl ⊢; omega
    rw [dif_neg this]
    simp only [zBd, Rel]
    exact ⟨vs, rfl, h2⟩
 ·change ((fn.results.mapM (resV a.tmps)) >>= fun vs => (pure (if h : vs.size = 1 then vs[0] else .tuple vs) : Sem Value)).run C.P w = _
  rw [Sem.run_bind, hrun]
  rfl
def St.init (C : Cfg) (args : List D) (hp : Hp) : St := { env := args ++ List.replicate (C.pers.length - args.length) .u0, scr := [], hp := hp }
theorem init_sim {C : Cfg} {fn : Func} (hnt : fn.ntmps = C.nt) {args : List D} {hp : Hp} (hpl : C.pers.take args.length = List.range args.length) (hlt : args.length ≤ C.nt) (hn0 : C.n0 = hp.H.length) (hm0 : C.m0 = hp.tk.length)
 (hd0 : C.dfs = []) {w : World} {g : Gh} {xs : List Value} (hH : HeapRel w g hp) (hargs : RelL w g args xs) :
 Sim C w g (St.init C args hp) { tmps := xs.toArray ++ Array.replicate (fn.ntmps - xs.toArray.size) Go.undef, defers := [] } w := by
 have hal : args.length ≤ C.pers.length := by
  have := congrArg List.length hpl
  simp at this; omega
 have hxl := hargs.length
 have hinv : Inv w g hp w g := ⟨hH, Evo.refl _ _, Keeps.refl _ _, fun n hn => .inl hn, fun n hn => .inl hn, fun b o hb => .inl hb⟩
 have hsim : Sim C w g (St.init C args hp) { tmps := xs.toArray ++ Array.replicate (fn.ntmps - xs.toArray.size) Go.undef, defers := [] } w := by
  refine ⟨g, hinv, ⟨by rw [hn0, hH.len], by rw [hm0, hH.lent]⟩, by simp; omega, hd0.symm, by simp [St.init]; omega, fun t => ?_⟩
  unfold St.slot St.init
  split
  ·rename_i i hi
   have hti := zCr hi
   by_cases hlt2 : i < args.length
   ·have ht : t = i := by
     have h1 : (C.pers.take args.length)[i]? = some t := by rw [List.getElem?_take, if_pos hlt2]; exact hti
     rw [hpl] at h1
     simp [List.getElem?_range, hlt2] at h1
     exact h1.symm
    subst ht
    obtain ⟨x, hx1, hx2⟩ := hargs.get (List.getElem?_eq_getElem hlt2)
    have e1 : (args ++ List.replicate (C.pers.length - args.length) D.u0).getD t .u0 = args[t] := by
     simp [List.getD, List.getElem?_append_left hlt2, hlt2]
    have e2 : (xs.toArray ++ Array.replicate (fn.ntmps - xs.toArray.size) Go.undef).getD t Go.undef = x := by
     have hlx : t < xs.length := by omega
     rw [Array.getD_eq_getD_getElem?, Array.getElem?_append_left (by simpa using hlx)]
     simp [hx1]
    rw [e1, e2]; exact hx2
   ·have e1 : (args ++ List.replicate (C.pers.length - args.length) D.u0).getD i .u0 = .u0 := by
     simp only [List.getD, List.getElem?_append_right (Nat.le_of_not_lt hlt2), List.getElem?_replicate]
     split <;> rfl
    rw [e1]; simp [Rel]
  ·simp [lk, Rel]
 exact hsim
theorem body_spec {C : Cfg} {f : FuncId} {fn : Func} {c : Code} {rc : RC} {rs : List RR} (hf : C.P.funcs[f]? = some fn) (hb : fn.body = some c) (hnt : fn.ntmps = C.nt) (hrc : zAe C c = some rc) (hrs : resRs C fn.results.toList = some rs)
 {args : List D} {hp : Hp} {R : D → Hp → Prop} (hpl : C.pers.take args.length = List.range args.length) (hlt : args.length ≤ C.nt) (hn0 : C.n0 = hp.H.length) (hm0 : C.m0 = hp.tk.length)
 (h : SWp C rc (fun e s => (match e with | .exit _ => False | _ => True) ∧ ∃ s1, Weak C s s1 ∧ rrsWp rs s1 fun ds => R (zBd ds) s1.hp) (St.init C args hp)) (hd0 : C.dfs = []) (hpan : ∀ d hp, ¬ C.M.pan d hp) {w : World} {g : Gh} {xs : List Value} (hA : C.M.start w g) (hH : HeapRel w g hp) (hargs : RelL w g args xs) :
 Calls C.M.P f xs.toArray w (Post w g R) := by
 refine calls_of_wp hf hb ((wpIn_wide (n := 0)).1 ?_)
 have hsim := init_sim hnt hpl hlt hn0 hm0 hd0 hH hargs
 refine wpIn_mono (h.run c hrc w g hA _ w hsim none) fun e a' w' hl => ?_
 have fin : ∀ s, Sim C w g s a' w' → (∃ s1, Weak C s s1 ∧ rrsWp rs s1 fun ds => R (zBd ds) s1.hp) →
  a'.defers = [] ∧ ∃ v, (results fn a'.tmps).run C.P w' = .ok v w' ∧ Post w g R (.returned v) w' := by
  intro s hs hrr
  obtain ⟨s1, hw, hrr⟩ := hrr
  obtain ⟨G, g0, gb, g1, g2, g3, g4⟩ := hw _ _ _ _ hs
  obtain ⟨ds, v, k1, k4, k5⟩ := results_run (a := a') (fn := fn) g0 g4 hrs hrr
  exact ⟨g2.trans hd0, v, k5, v, _, _, G, rfl, k1, g0, k4⟩
 cases e <;> simp only [Lift, bodyPost] at hl ⊢
 case panic ch => obtain ⟨_, _, _, _, _, _, k, _⟩ := hl; exact absurd k (hpan _ _)
 ·obtain ⟨s, h1, _, h2⟩ := hl; exact fin s h1 h2
 ·obtain ⟨s, h1, h3, h2⟩ := hl; exact h3.elim
 ·obtain ⟨s, h1, _, h2⟩ := hl; exact fin s h1 h2
theorem eff_of_body {C : Cfg} {f : FuncId} {fn : Func} {c : Code} {rc : RC} {rs : List RR} (hf : C.P.funcs[f]? = some fn) (hb : fn.body = some c) (hnt : fn.ntmps = C.nt) (hrc : zAe C c = some rc) (hrs : resRs C fn.results.toList = some rs)
 {args : List D} {hp : Hp} {R : D → Hp → Prop} (hname : (fn.name == "runtime.NumGoroutine") = false) (hpl : C.pers.take args.length = List.range args.length) (hlt : args.length ≤ C.nt) (hn0 : C.n0 = hp.H.length) (hm0 : C.m0 = hp.tk.length)
 (h : SWp C rc (fun e s => (match e with | .exit _ => False | _ => True) ∧ ∃ s1, Weak C s s1 ∧ rrsWp rs s1 fun ds => R (zBd ds) s1.hp) (St.init C args hp)) (hd0 : C.dfs = [] := by rfl) (hbs : ∀ w g, C.M.base w g := by exact fun _ _ => trivial) (hpan : ∀ d hp, ¬ C.M.pan d hp := by exact fun _ _ h => h) :
 Eff C.M f args hp R :=
 ⟨⟨fn, hf, by simp [hb], hname⟩, fun w g xs hA hH hargs => body_spec hf hb hnt hrc hrs hpl hlt hn0 hm0 h hd0 hpan ⟨hA, hbs _ _⟩ hH hargs⟩
theorem pur_of_eff {M : Mod} {f : FuncId} {args : List D} {d : D} (h : Eff M f args ⟨[], []⟩ fun d' _ => d'.closed = true ∧ d'.er = d) : Pur M f args d := by
 refine ⟨h.1, fun w g xs hA hH hargs => (h.2 w g xs hA hH hargs).mono fun e w' hp => ?_⟩
 obtain ⟨v, d', hp', G, rfl, ⟨h1, h2⟩, h3, h4⟩ := hp
 have hg : g = ⟨[], [], g.I⟩ := by
  obtain ⟨r, tk, I⟩ := g
  have e1 : r = [] := List.eq_nil_of_length_eq_zero hH.len.symm
  have e2 : tk = [] := List.eq_nil_of_length_eq_zero hH.lent.symm
  subst e1; subst e2; rfl
 rw [hg] at h3 ⊢
 refine ⟨v, d, ⟨[], []⟩, G.cl, rfl, ⟨rfl, rfl⟩, h3.none, ?_⟩
 rw [← h2]
 exact Rel.closed _ h1 h4
theorem pur_of_bodyW {C : Cfg} {f : FuncId} {fn : Func} {c : Code} {rc : RC} {rs : List RR} (hf : C.P.funcs[f]? = some fn) (hb : fn.body = some c) (hnt : fn.ntmps = C.nt) (hrc : zAe C c = some rc) (hrs : resRs C fn.results.toList = some rs)
 {args : List D} {d : D} (hname : (fn.name == "runtime.NumGoroutine") = false) (hpl : C.pers.take args.length = List.range args.length) (hlt : args.length ≤ C.nt) (hn0 : C.n0 = 0) (hm0 : C.m0 = 0)
 (h : SWp C rc (fun e s => (match e with | .exit _ => False | _ => True) ∧ ∃ s1, Weak C s s1 ∧ rrsWp rs s1 fun ds => D.closed (zBd ds) = true ∧ (zBd ds).er = d) (St.init C args ⟨[], []⟩)) (hd0 : C.dfs = [] := by rfl) (hbs : ∀ w g, C.M.base w g := by exact fun _ _ => trivial) (hpan : ∀ d hp, ¬ C.M.pan d hp := by exact fun _ _ h => h) : Pur C.M f args d :=
 pur_of_eff (eff_of_body hf hb hnt hrc hrs hname hpl hlt hn0 hm0 h hd0 hbs hpan)
def posF (l : List Nat) (b : Nat) : Option Nat := idx b l
def bakF (l : List Nat) (n : Nat) (i : Nat) : Option Nat := if i < l.length then l[i]? else some (n + (i - l.length))
def Gh.sel (g : Gh) (bl tl : List Nat) : Gh := ⟨bl.filterMap (g.r[·]?), tl.filterMap (g.tk[·]?), g.I⟩
def Hp.sel (hp : Hp) (bl tl : List Nat) : Hp := ⟨Blk.rnL (posF bl) (posF tl) (bl.map (hp.H.getD · .gone)), Tv.rnL (posF bl) (posF tl) (tl.map (hp.tk.getD · (.per 0 0)))⟩
def putAt {α : Type} : List Nat → List α → List α → List α
 | b :: bl, x :: xs, H => putAt bl xs (H.set b x)
 | _, _, H => H
def Hp.back (hp : Hp) (bl tl : List Nat) (hp1 : Hp) : Hp :=
 ⟨putAt bl (Blk.rnL (bakF bl hp.H.length) (bakF tl hp.tk.length) (hp1.H.take bl.length)) hp.H ++ Blk.rnL (bakF bl hp.H.length) (bakF tl hp.tk.length) (hp1.H.drop bl.length),
  putAt tl (Tv.rnL (bakF bl hp.H.length) (bakF tl hp.tk.length) (hp1.tk.take tl.length)) hp.tk ++ Tv.rnL (bakF bl hp.H.length) (bakF tl hp.tk.length) (hp1.tk.drop tl.length)⟩
theorem zAm {α : Type} : ∀ (bl : List Nat) (xs H : List α), (putAt bl xs H).length = H.length
 | [], _, _ => by simp [putAt]
 | _ :: _, [], _ => by simp [putAt]
 | b :: bl, x :: xs, H => by simp [putAt, zAm bl xs]
theorem zDv {α : Type} : ∀ (bl : List Nat) (xs H : List α) (j : Nat), j ∉ bl → (putAt bl xs H)[j]? = H[j]?
 | [], _, _, _, _ => by simp [putAt]
 | _ :: _, [], _, _, _ => by simp [putAt]
 | b :: bl, x :: xs, H, j, h => by
   simp only [List.mem_cons, not_or] at h
   simp only [putAt]
   rw [zDv bl xs _ j h.2, List.getElem?_set, if_neg (fun e => h.1 e.symm)]
theorem putAt_in {α : Type} : ∀ (bl : List Nat) (xs H : List α) (i b : Nat) (x : α), bl.Nodup → bl[i]? = some b → xs[i]? = some x → b < H.length → (putAt bl xs H)[b]? = some x
 | [], _, _, i, _, _, _, h, _, _ => by simp at h
 | _ :: _, [], _, i, _, _, _, _, h, _ => by simp at h
 | c :: bl, y :: xs, H, 0, b, x, hn, h1, h2, h3 => by
   simp at h1 h2; subst h1; subst h2
   simp only [putAt]
   rw [zDv bl xs _ c (List.nodup_cons.1 hn).1]
   simp [h3]
 | c :: bl, y :: xs, H, i + 1, b, x, hn, h1, h2, h3 => by
   simp only [putAt]
   exact putAt_in bl xs _ i b x (List.nodup_cons.1 hn).2 (by simpa using h1) (by simpa using h2) (by simpa using h3)
theorem zD8 {α : Type} {l : List α} : ∀ {bl : List Nat}, (∀ b ∈ bl, b < l.length) → (bl.filterMap (l[·]?)).length = bl.length ∧ ∀ (i b : Nat), bl[i]? = some b → (bl.filterMap (l[·]?))[i]? = l[b]?
 | [], _ => by simp
 | b :: bl, h => by
   obtain ⟨h1, h2⟩ := zD8 (l := l) (bl := bl) fun c hc => h c (by simp [hc])
   have hb := h b (by simp)
   have e : l[b]? = some l[b] := List.getElem?_eq_getElem hb
   rw [List.filterMap_cons_some e]
   refine ⟨by simp [h1], fun i c hi => ?_⟩
   cases i with
   | zero => simp at hi; subst hi; simp [hb]
   | succ i => simpa using h2 i c (by simpa using hi)
structure SelOk (hp : Hp) (bl tl : List Nat) : Prop where
 bn : bl.Nodup
 tn : tl.Nodup
 bl_ : ∀ b ∈ bl, b < hp.H.length
 tl_ : ∀ t ∈ tl, t < hp.tk.length
section
variable {w0 : World} {B G : Gh} {hp : Hp} {w : World} {bl tl : List Nat}
theorem Ren.sel (h : HeapRel w G hp) (hs : SelOk hp bl tl) : Ren (posF bl) (posF tl) G (G.sel bl tl) := by
 obtain ⟨_, r2⟩ := zD8 (l := G.r) (bl := bl) fun b hb => by rw [← h.len]; exact hs.bl_ b hb
 obtain ⟨_, t2⟩ := zD8 (l := G.tk) (bl := tl) fun b hb => by rw [← h.lent]; exact hs.tl_ b hb
 refine ⟨rfl, fun b i n h1 h2 => ?_, fun t i T h1 h2 => ?_⟩
 ·exact (r2 i b (zCr h1)).trans h2
 ·exact (t2 i t (zCr h1)).trans h2
theorem zB7 {α : Type} {l : List α} {bl : List Nat} {x : α} (h : x ∈ bl.filterMap (l[·]?)) : ∃ b ∈ bl, l[b]? = some x := by simpa [List.mem_filterMap] using h
theorem nodup_sel {l : List Nat} : ∀ {bl : List Nat}, l.Nodup → bl.Nodup → (bl.filterMap (l[·]?)).Nodup
 | [], _, _ => by simp
 | b :: bl, hl, hb => by
   obtain ⟨h1, h2⟩ := List.nodup_cons.1 hb
   have ih := nodup_sel hl h2
   cases e : l[b]? with
   | none => rw [List.filterMap_cons_none e]; exact ih
   | some x =>
     rw [List.filterMap_cons_some e, List.nodup_cons]
     refine ⟨fun hm => ?_, ih⟩
     obtain ⟨c, hc, hx⟩ := zB7 hm
     have := zDx hl e hx
     subst this; exact h1 hc
theorem blks_sel {l : List Tk} : ∀ {tl : List Nat}, (blks l).Nodup → tl.Nodup → (blks (tl.filterMap (l[·]?))).Nodup
 | [], _, _ => by simp [blks]
 | t :: tl, hl, ht => by
   obtain ⟨h1, h2⟩ := List.nodup_cons.1 ht
   have ih := blks_sel hl h2
   cases e : l[t]? with
   | none => rw [List.filterMap_cons_none e]; exact ih
   | some T =>
     rw [List.filterMap_cons_some e]
     unfold blks at ih ⊢
     cases hb : T.blk with
     | none => rw [List.filterMap_cons_none hb]; exact ih
     | some b =>
       rw [List.filterMap_cons_some hb, List.nodup_cons]
       refine ⟨fun hm => ?_, ih⟩
       obtain ⟨U, hU, hUb⟩ := List.mem_filterMap.1 hm
       obtain ⟨u, hu, hue⟩ := zB7 hU
       have := zDs hl e hue hb hUb
       subst this; exact h1 hu
theorem HeapRel.sel (h : HeapRel w G hp) (hs : SelOk hp bl tl) : HeapRel w (G.sel bl tl) (hp.sel bl tl) := by
 have hr := Ren.sel h hs
 obtain ⟨r1, r2⟩ := zD8 (l := G.r) (bl := bl) fun b hb => by rw [← h.len]; exact hs.bl_ b hb
 obtain ⟨t1, t2⟩ := zD8 (l := G.tk) (bl := tl) fun b hb => by rw [← h.lent]; exact hs.tl_ b hb
 refine ⟨?_, fun i C n hC hn => ?_, fun n hn => ?_, nodup_sel h.nodup hs.bn, ?_, fun i V T hV hT => ?_, fun T hT => ?_, blks_sel h.tokd hs.tn, fun b o ho => ⟨(h.imm b o ho).1, fun i hi => ?_⟩⟩
 ·simp only [Hp.sel, Gh.sel, Blk.rnL_eq, List.length_map]; exact r1.symm
 ·simp only [Hp.sel, Blk.rnL_eq, List.getElem?_map, Option.map_eq_some_iff] at hC
  obtain ⟨C', ⟨b, hb, rfl⟩, rfl⟩ := hC
  have hl := hs.bl_ b (List.mem_of_getElem? hb)
  have hn' : G.r[b]? = some n := by rw [← r2 i b hb]; exact hn
  have e : hp.H[b]? = some (hp.H.getD b .gone) := by simp [List.getD, hl]
  exact (h.blk b _ n e hn').rn hr
 ·obtain ⟨b, _, hb⟩ := zB7 hn
  exact h.lt n (List.mem_of_getElem? hb)
 ·simp only [Hp.sel, Gh.sel, Tv.rnL_eq, List.length_map]; exact t1.symm
 ·simp only [Hp.sel, Tv.rnL_eq, List.getElem?_map, Option.map_eq_some_iff] at hV
  obtain ⟨V', ⟨t, ht, rfl⟩, rfl⟩ := hV
  have hl := hs.tl_ t (List.mem_of_getElem? ht)
  have hT' : G.tk[t]? = some T := by rw [← t2 i t ht]; exact hT
  have e : hp.tk[t]? = some (hp.tk.getD t (.per 0 0)) := by simp [List.getD, hl]
  exact (h.tv t _ T e hT').rn hr
 ·obtain ⟨t, _, ht⟩ := zB7 hT
  refine (h.tok T (List.mem_of_getElem? ht)).keep (fun _ _ => rfl) fun b _ hb hm => hb ?_
  obtain ⟨c, _, hc⟩ := zB7 hm
  exact List.mem_of_getElem? hc
 ·have hi' : (bl.filterMap (G.r[·]?))[i]? = some b := hi
  have hlt : i < bl.length := by rw [← r1]; exact zAd hi'
  have hbi := List.getElem?_eq_getElem hlt
  have hG : G.r[bl[i]]? = some b := by rw [← r2 i _ hbi]; exact hi'
  have := (h.imm b o ho).2 _ hG
  simp only [Hp.sel, Blk.rnL_eq, List.getElem?_map, hbi, Option.map_some, List.getD, this]
  rfl
theorem own_sel {n : Nat} (h : n ∈ (G.sel bl tl).own) : n ∈ G.own := by
 rcases List.mem_append.1 h with q | q
 ·obtain ⟨b, _, hb⟩ := zB7 q
  exact List.mem_append.2 (.inl (List.mem_of_getElem? hb))
 ·obtain ⟨T, hT, hTb⟩ := mem_blks.1 q
  obtain ⟨t, _, ht⟩ := zB7 hT
  exact List.mem_append.2 (.inr (mem_blks.2 ⟨T, List.mem_of_getElem? ht, hTb⟩))
def Gh.back (G : Gh) (bl tl : List Nat) (g1 : Gh) : Gh := ⟨G.r ++ g1.r.drop bl.length, putAt tl (g1.tk.take tl.length) G.tk ++ g1.tk.drop tl.length, g1.I⟩
theorem drop_get {α : Type} {l : List α} {n i : Nat} {x : α} (h : (l.drop n)[i]? = some x) : l[n + i]? = some x := by rwa [List.getElem?_drop] at h
theorem nodup_blks : ∀ {l : List Tk}, (∀ (i j : Nat) (T U : Tk) (n : Nat), l[i]? = some T → l[j]? = some U → T.blk = some n → U.blk = some n → i = j) → (blks l).Nodup
 | [], _ => by simp [blks]
 | T :: l, h => by
   have ih := nodup_blks (l := l) fun i j U V n hi hj h1 h2 => by
    have := h (i + 1) (j + 1) U V n (by simpa using hi) (by simpa using hj) h1 h2
    omega
   unfold blks at ih ⊢
   cases hb : T.blk with
   | none => rw [List.filterMap_cons_none hb]; exact ih
   | some b =>
     rw [List.filterMap_cons_some hb, List.nodup_cons]
     refine ⟨fun hm => ?_, ih⟩
     obtain ⟨U, hU, hUb⟩ := List.mem_filterMap.1 hm
     obtain ⟨j, hj⟩ := List.mem_iff_getElem?.1 hU
     have := h 0 (j + 1) T U b (by simp) (by simpa using hj) hb hUb
     omega
theorem Inv.back {w' : World} {hp1 : Hp} {g1 : Gh} (h : Inv w0 B hp w G) (hs : SelOk hp bl tl) (h1 : Inv w (G.sel bl tl) hp1 w' g1) :
 Inv w0 B (hp.back bl tl hp1) w' (G.back bl tl g1) ∧ Evo w G w' (G.back bl tl g1) ∧ Ren (bakF bl hp.H.length) (bakF tl hp.tk.length) g1 (G.back bl tl g1) := by
 have h0 := h.heap
 have c0 := h1.heap
 obtain ⟨r1, r2⟩ := zD8 (l := G.r) (bl := bl) fun b hb => by rw [← h0.len]; exact hs.bl_ b hb
 obtain ⟨t1, t2⟩ := zD8 (l := G.tk) (bl := tl) fun b hb => by rw [← h0.lent]; exact hs.tl_ b hb
 have hblG : ∀ i b : Nat, bl[i]? = some b → ∃ n, G.r[b]? = some n ∧ (G.sel bl tl).r[i]? = some n ∧ g1.r[i]? = some n := by
  intro i b hb
  have hl : b < G.r.length := by rw [← h0.len]; exact hs.bl_ b (List.mem_of_getElem? hb)
  have e1 := List.getElem?_eq_getElem hl
  have e2 : (G.sel bl tl).r[i]? = some G.r[b] := (r2 i b hb).trans e1
  exact ⟨_, e1, e2, h1.evo.ref i _ e2⟩
 have htlG : ∀ i t : Nat, tl[i]? = some t → ∃ T T1, G.tk[t]? = some T ∧ (G.sel bl tl).tk[i]? = some T ∧ g1.tk[i]? = some T1 ∧ T1.k = T.k ∧ (T1 = T ∨ T.len < T1.len) := by
  intro i t ht
  have hl : t < G.tk.length := by rw [← h0.lent]; exact hs.tl_ t (List.mem_of_getElem? ht)
  have e1 := List.getElem?_eq_getElem hl
  have e2 : (G.sel bl tl).tk[i]? = some G.tk[t] := (t2 i t ht).trans e1
  obtain ⟨T1, q1, q2⟩ := h1.evo.tok i _ e2
  exact ⟨_, T1, e1, e2, q1, q2⟩
 have hbl1 : bl.length ≤ g1.r.length := by
  rcases Nat.lt_or_ge g1.r.length bl.length with q | q
  ·obtain ⟨n, _, _, e⟩ := hblG g1.r.length _ (List.getElem?_eq_getElem q)
   simp at e
  ·exact q
 have htl1 : tl.length ≤ g1.tk.length := by
  rcases Nat.lt_or_ge g1.tk.length tl.length with q | q
  ·obtain ⟨T, T1, _, _, e, _⟩ := htlG g1.tk.length _ (List.getElem?_eq_getElem q)
   simp at e
  ·exact q
 have htake : (g1.tk.take tl.length).length = tl.length := by simp; omega
 have rOld : ∀ b n : Nat, G.r[b]? = some n → (G.back bl tl g1).r[b]? = some n := fun b n hb => by
  show (G.r ++ g1.r.drop bl.length)[b]? = some n
  rw [List.getElem?_append_left (zAd hb)]; exact hb
 have rNew : ∀ i n : Nat, bl.length ≤ i → g1.r[i]? = some n → (G.back bl tl g1).r[hp.H.length + (i - bl.length)]? = some n := fun i n hi hn => by
  show (G.r ++ g1.r.drop bl.length)[_]? = some n
  rw [List.getElem?_append_right (by rw [← h0.len]; omega), ← h0.len, List.getElem?_drop, ← hn]
  congr 1; omega
 have tOut : ∀ (t : Nat) (T : Tk), t ∉ tl → G.tk[t]? = some T → (G.back bl tl g1).tk[t]? = some T := fun t T ht hT => by
  show (putAt tl (g1.tk.take tl.length) G.tk ++ g1.tk.drop tl.length)[t]? = some T
  rw [List.getElem?_append_left (by rw [zAm]; exact zAd hT), zDv _ _ _ _ ht]; exact hT
 have tIn : ∀ (i t : Nat) (T1 : Tk), tl[i]? = some t → g1.tk[i]? = some T1 → (G.back bl tl g1).tk[t]? = some T1 := fun i t T1 ht hT => by
  have hl : t < G.tk.length := by rw [← h0.lent]; exact hs.tl_ t (List.mem_of_getElem? ht)
  show (putAt tl (g1.tk.take tl.length) G.tk ++ g1.tk.drop tl.length)[t]? = some T1
  rw [List.getElem?_append_left (by rw [zAm]; exact hl)]
  exact putAt_in _ _ _ i t T1 hs.tn ht (by rw [List.getElem?_take, if_pos (zAd ht)]; exact hT) hl
 have tNew : ∀ (i : Nat) (T1 : Tk), tl.length ≤ i → g1.tk[i]? = some T1 → (G.back bl tl g1).tk[hp.tk.length + (i - tl.length)]? = some T1 := fun i T1 hi hT => by
  show (putAt tl (g1.tk.take tl.length) G.tk ++ g1.tk.drop tl.length)[_]? = some T1
  rw [List.getElem?_append_right (by rw [zAm, ← h0.lent]; omega), zAm, ← h0.lent, List.getElem?_drop, ← hT]
  congr 1; omega
 have hren : Ren (bakF bl hp.H.length) (bakF tl hp.tk.length) g1 (G.back bl tl g1) := by
  refine ⟨rfl, fun i b n hi hn => ?_, fun i t T hi hT => ?_⟩
  ·unfold bakF at hi
   split at hi
   ·rename_i hlt
    obtain ⟨m, q1, _, q3⟩ := hblG i b hi
    rw [hn] at q3; cases q3
    exact rOld b n q1
   ·cases hi; exact rNew i n (by omega) hn
  ·unfold bakF at hi
   split at hi
   ·exact tIn i t T hi hT
   ·cases hi; exact tNew i T (by omega) hT
 have hevo : Evo w G w' (G.back bl tl g1) := by
  refine ⟨fun b o ho => h1.evo.imm b o ho, rOld, fun t T hT => ?_⟩
  by_cases ht : t ∈ tl
  ·obtain ⟨i, hi⟩ := List.mem_iff_getElem?.1 ht
   obtain ⟨T0, T1, q1, _, q3, q4⟩ := htlG i t hi
   rw [hT] at q1; cases q1
   exact ⟨T1, tIn i t T1 hi q3, q4⟩
  ·exact ⟨T, tOut t T ht hT, rfl, .inl rfl⟩
 have selr : ∀ (b n : Nat), G.r[b]? = some n → b ∉ bl → n ∉ (G.sel bl tl).own := by
  intro b n hb hnb hm
  rcases List.mem_append.1 hm with q | q
  ·obtain ⟨c, hc, hcn⟩ := zB7 q
   have := zDx h0.nodup hb hcn
   subst this; exact hnb hc
  ·obtain ⟨T, hT, hTb⟩ := mem_blks.1 q
   obtain ⟨t, _, ht⟩ := zB7 hT
   exact ((h0.tok T (List.mem_of_getElem? ht)).2.2 n hTb).2.1 (List.mem_of_getElem? hb)
 have selt : ∀ (t : Nat) (T : Tk) (n : Nat), G.tk[t]? = some T → T.blk = some n → t ∉ tl → n ∉ (G.sel bl tl).own := by
  intro t T n hT hTb hnt hm
  rcases List.mem_append.1 hm with q | q
  ·obtain ⟨c, hc, hcn⟩ := zB7 q
   exact ((h0.tok T (List.mem_of_getElem? hT)).2.2 n hTb).2.1 (List.mem_of_getElem? hcn)
  ·obtain ⟨U, hU, hUb⟩ := mem_blks.1 q
   obtain ⟨u, hu, hue⟩ := zB7 hU
   have := zDs h0.tokd hT hue hTb hUb
   subst this; exact hnt hu
 have keepr : ∀ (b n : Nat), G.r[b]? = some n → b ∉ bl → w'.heap[n]? = w.heap[n]? := fun b n hb hnb => h1.keeps.block n (h0.lt n (List.mem_of_getElem? hb)) (selr b n hb hnb)
 have keept : ∀ (t : Nat) (T : Tk) (n : Nat), G.tk[t]? = some T → T.blk = some n → t ∉ tl → w'.heap[n]? = w.heap[n]? := fun t T n hT hTb hnt => h1.keeps.block n ((h0.tok T (List.mem_of_getElem? hT)).lt hTb) (selt t T n hT hTb hnt)
 have Iold : ∀ (b o : Nat), g1.I b o → b < w.heap.size → b ∉ (G.sel bl tl).own → G.I b o := fun b o ho hlt hn => by
  rcases h1.i1 b o ho with q | q | q
  ·exact q
  ·omega
  ·exact absurd (List.mem_append.2 (.inr q)) hn
 have newr1 : ∀ (i n : Nat), bl.length ≤ i → g1.r[i]? = some n → w.heap.size ≤ n := fun i n hi hn => by
  rcases h1.newr n (List.mem_of_getElem? hn) with q | q
  ·exfalso
   obtain ⟨j, hj⟩ := List.mem_iff_getElem?.1 q
   have e := zDx c0.nodup hn (h1.evo.ref j n hj)
   have := zAd hj
   have e2 : (G.sel bl tl).r.length = bl.length := r1
   omega
  ·exact q
 have tkAll : ∀ (t : Nat) (T : Tk), (G.back bl tl g1).tk[t]? = some T → (t ∉ tl ∧ G.tk[t]? = some T) ∨ (∃ i : Nat, tl[i]? = some t ∧ g1.tk[i]? = some T) ∨ ∃ i : Nat, tl.length ≤ i ∧ t = hp.tk.length + (i - tl.length) ∧ g1.tk[i]? = some T := by
  intro t T hT
  have hT' : (putAt tl (g1.tk.take tl.length) G.tk ++ g1.tk.drop tl.length)[t]? = some T := hT
  by_cases hlt : t < G.tk.length
  ·by_cases ht : t ∈ tl
   ·obtain ⟨i, hi⟩ := List.mem_iff_getElem?.1 ht
    obtain ⟨T0, T1, _, _, q3, _⟩ := htlG i t hi
    have := tIn i t T1 hi q3
    rw [hT] at this; cases this
    exact .inr (.inl ⟨i, hi, q3⟩)
   ·rw [List.getElem?_append_left (by rw [zAm]; exact hlt), zDv _ _ _ _ ht] at hT'
    exact .inl ⟨ht, hT'⟩
  ·rw [List.getElem?_append_right (by rw [zAm]; omega), zAm, List.getElem?_drop] at hT'
   exact .inr (.inr ⟨_, Nat.le_add_right _ _, by rw [h0.lent]; omega, hT'⟩)
 have rAll : ∀ (b n : Nat), (G.back bl tl g1).r[b]? = some n → G.r[b]? = some n ∨ ∃ i : Nat, bl.length ≤ i ∧ b = hp.H.length + (i - bl.length) ∧ g1.r[i]? = some n := by
  intro b n hb
  have hb' : (G.r ++ g1.r.drop bl.length)[b]? = some n := hb
  by_cases hlt : b < G.r.length
  ·rw [List.getElem?_append_left hlt] at hb'; exact .inl hb'
  ·rw [List.getElem?_append_right (by omega), List.getElem?_drop] at hb'
   exact .inr ⟨_, Nat.le_add_right _ _, by rw [h0.len]; omega, hb'⟩
 have Hin : ∀ (i b : Nat) (C : Blk), bl[i]? = some b → hp1.H[i]? = some C → (hp.back bl tl hp1).H[b]? = some (C.rn (bakF bl hp.H.length) (bakF tl hp.tk.length)) := fun i b C hb hC => by
  have hl := hs.bl_ b (List.mem_of_getElem? hb)
  simp only [Hp.back]
  rw [List.getElem?_append_left (by rw [zAm]; exact hl)]
  refine putAt_in _ _ _ i b _ hs.bn hb ?_ hl
  rw [Blk.rnL_eq, List.getElem?_map, List.getElem?_take, if_pos (zAd hb), hC]; rfl
 have Hout : ∀ (b : Nat), b < hp.H.length → b ∉ bl → (hp.back bl tl hp1).H[b]? = hp.H[b]? := fun b hl hb => by
  simp only [Hp.back]
  rw [List.getElem?_append_left (by rw [zAm]; exact hl), zDv _ _ _ _ hb]
 have Hnew : ∀ (i : Nat) (C : Blk), bl.length ≤ i → hp1.H[i]? = some C → (hp.back bl tl hp1).H[hp.H.length + (i - bl.length)]? = some (C.rn (bakF bl hp.H.length) (bakF tl hp.tk.length)) := fun i C hi hC => by
  simp only [Hp.back]
  rw [List.getElem?_append_right (by rw [zAm]; omega), zAm, Blk.rnL_eq, List.getElem?_map, List.getElem?_drop]
  rw [show bl.length + (hp.H.length + (i - bl.length) - hp.H.length) = i by omega, hC]; rfl
 have Tin : ∀ (i t : Nat) (V : Tv), tl[i]? = some t → hp1.tk[i]? = some V → (hp.back bl tl hp1).tk[t]? = some (V.rn (bakF bl hp.H.length) (bakF tl hp.tk.length)) := fun i t V ht hV => by
  have hl := hs.tl_ t (List.mem_of_getElem? ht)
  simp only [Hp.back]
  rw [List.getElem?_append_left (by rw [zAm]; exact hl)]
  refine putAt_in _ _ _ i t _ hs.tn ht ?_ hl
  rw [Tv.rnL_eq, List.getElem?_map, List.getElem?_take, if_pos (zAd ht), hV]; rfl
 have Tout : ∀ (t : Nat), t < hp.tk.length → t ∉ tl → (hp.back bl tl hp1).tk[t]? = hp.tk[t]? := fun t hl ht => by
  simp only [Hp.back]
  rw [List.getElem?_append_left (by rw [zAm]; exact hl), zDv _ _ _ _ ht]
 have Tnew : ∀ (i : Nat) (V : Tv), tl.length ≤ i → hp1.tk[i]? = some V → (hp.back bl tl hp1).tk[hp.tk.length + (i - tl.length)]? = some (V.rn (bakF bl hp.H.length) (bakF tl hp.tk.length)) := fun i V hi hV => by
  simp only [Hp.back]
  rw [List.getElem?_append_right (by rw [zAm]; omega), zAm, Tv.rnL_eq, List.getElem?_map, List.getElem?_drop]
  rw [show tl.length + (hp.tk.length + (i - tl.length) - hp.tk.length) = i by omega, hV]; rfl
 have tkOkAll : ∀ T ∈ (G.back bl tl g1).tk, TkOk w' (G.back bl tl g1) T := by
  intro T hT
  obtain ⟨t, ht⟩ := List.mem_iff_getElem?.1 hT
  rcases tkAll t T ht with ⟨q1, q2⟩ | q
  ·refine (h0.tok T (List.mem_of_getElem? q2)).keep (fun b hb => keept t T b q2 hb q1) fun b hb hn hm => ?_
   obtain ⟨c, hc⟩ := List.mem_iff_getElem?.1 hm
   rcases rAll c b hc with p | ⟨i, p1, _, p3⟩
   ·exact hn (List.mem_of_getElem? p)
   ·have := newr1 i b p1 p3
    have := (h0.tok T (List.mem_of_getElem? q2)).lt hb
    omega
  ·obtain ⟨i, hi⟩ : ∃ i : Nat, g1.tk[i]? = some T := by
    rcases q with ⟨i, _, hi⟩ | ⟨i, _, _, hi⟩ <;> exact ⟨i, hi⟩
   have hT1 := List.mem_of_getElem? hi
   refine (c0.tok T hT1).keep (fun _ _ => rfl) fun b hb hn hm => ?_
   obtain ⟨c, hc⟩ := List.mem_iff_getElem?.1 hm
   rcases rAll c b hc with p | ⟨j, _, _, p3⟩
   ·
    by_cases hcb : c ∈ bl
    ·obtain ⟨j, hj⟩ := List.mem_iff_getElem?.1 hcb
     obtain ⟨m, e1, _, e3⟩ := hblG j c hj
     rw [p] at e1; cases e1
     exact hn (List.mem_of_getElem? e3)
    ·have hns := selr c b p hcb
     rcases h1.newt b (mem_blks.2 ⟨T, hT1, hb⟩) with e | e
     ·exact hns (List.mem_append.2 (.inr e))
     ·have := h0.lt b (List.mem_of_getElem? p); omega
   ·exact hn (List.mem_of_getElem? p3)
 have hh : HeapRel w' (G.back bl tl g1) (hp.back bl tl hp1) := by
  refine ⟨?_, fun b C n hC hn => ?_, fun n hn => ?_, ?_, ?_, fun t V T hV hT => ?_, tkOkAll, ?_, fun b o ho => ?_⟩
  ·simp only [Hp.back, Gh.back, List.length_append, zAm, Blk.rnL_eq, List.length_map, List.length_drop, h0.len, c0.len]
  ·rcases rAll b n hn with q | ⟨i, q1, q2, q3⟩
   ·have hl : b < hp.H.length := by rw [h0.len]; exact zAd q
    by_cases hb : b ∈ bl
    ·obtain ⟨i, hi⟩ := List.mem_iff_getElem?.1 hb
     obtain ⟨m, e1, _, e3⟩ := hblG i b hi
     rw [q] at e1; cases e1
     obtain ⟨C', hC'⟩ : ∃ C', hp1.H[i]? = some C' := ⟨_, List.getElem?_eq_getElem (by rw [c0.len]; exact zAd e3)⟩
     rw [Hin i b C' hi hC'] at hC; cases hC
     exact (c0.blk i C' n hC' e3).rn hren
    ·rw [Hout b hl hb] at hC
     rw [keepr b n q hb]
     exact (h0.blk b C n hC q).evo hevo
   ·obtain ⟨C', hC'⟩ : ∃ C', hp1.H[i]? = some C' := ⟨_, List.getElem?_eq_getElem (by rw [c0.len]; exact zAd q3)⟩
    subst q2
    rw [Hnew i C' q1 hC'] at hC; cases hC
    exact (c0.blk i C' n hC' q3).rn hren
  ·obtain ⟨b, hb⟩ := List.mem_iff_getElem?.1 hn
   rcases rAll b n hb with q | ⟨i, _, _, q3⟩
   ·exact Nat.lt_of_lt_of_le (h0.lt n (List.mem_of_getElem? q)) h1.keeps.size
   ·exact c0.lt n (List.mem_of_getElem? q3)
  ·show (G.r ++ g1.r.drop bl.length).Nodup
   rw [List.nodup_append]
   refine ⟨h0.nodup, c0.nodup.sublist (List.drop_sublist _ _), fun a ha b hb e => ?_⟩
   subst e
   obtain ⟨i, hi⟩ := List.mem_iff_getElem?.1 hb
   have := newr1 _ a (Nat.le_add_right _ _) (drop_get hi)
   have := h0.lt a ha
   omega
  ·simp only [Hp.back, Gh.back, List.length_append, zAm, Tv.rnL_eq, List.length_map, List.length_drop, h0.lent, c0.lent]
  ·rcases tkAll t T hT with ⟨q1, q2⟩ | ⟨i, q1, q2⟩ | ⟨i, q1, q2, q3⟩
   ·rw [Tout t (by rw [h0.lent]; exact zAd q2) q1] at hV
    refine (h0.tv t V T hV q2).evo hevo (fun b hb o ho => Iold b o ho ((h0.tok T (List.mem_of_getElem? q2)).lt hb) (selt t T b q2 hb q1)) fun b hb => keept t T b q2 hb q1
   ·obtain ⟨V', hV'⟩ : ∃ V', hp1.tk[i]? = some V' := ⟨_, List.getElem?_eq_getElem (by rw [c0.lent]; exact zAd q2)⟩
    rw [Tin i t V' q1 hV'] at hV; cases hV
    exact (c0.tv i V' T hV' q2).rn hren
   ·obtain ⟨V', hV'⟩ : ∃ V', hp1.tk[i]? = some V' := ⟨_, List.getElem?_eq_getElem (by rw [c0.lent]; exact zAd q3)⟩
    subst q2
    rw [Tnew i V' q1 hV'] at hV; cases hV
    exact (c0.tv i V' T hV' q3).rn hren
  ·refine nodup_blks fun i j T U n hi hj hTb hUb => ?_
   have cross : ∀ (t : Nat) (T : Tk) (n : Nat), t ∉ tl → G.tk[t]? = some T → T.blk = some n → n ∉ blks g1.tk := by
    intro t T n ht hT hTb hm
    rcases h1.newt n hm with e | e
    ·exact selt t T n hT hTb ht (List.mem_append.2 (.inr e))
    ·have := (h0.tok T (List.mem_of_getElem? hT)).lt hTb; omega
   rcases tkAll i T hi with ⟨q1, q2⟩ | q <;> rcases tkAll j U hj with ⟨p1, p2⟩ | p
   ·exact zDs h0.tokd q2 p2 hTb hUb
   ·obtain ⟨k, hk⟩ : ∃ k : Nat, g1.tk[k]? = some U := by rcases p with ⟨k, _, hk⟩ | ⟨k, _, _, hk⟩ <;> exact ⟨k, hk⟩
    exact absurd (mem_blks.2 ⟨U, List.mem_of_getElem? hk, hUb⟩) (cross i T n q1 q2 hTb)
   ·obtain ⟨k, hk⟩ : ∃ k : Nat, g1.tk[k]? = some T := by rcases q with ⟨k, _, hk⟩ | ⟨k, _, _, hk⟩ <;> exact ⟨k, hk⟩
    exact absurd (mem_blks.2 ⟨T, List.mem_of_getElem? hk, hTb⟩) (cross j U n p1 p2 hUb)
   ·rcases q with ⟨k, hk1, hk2⟩ | ⟨k, hk1, hk3, hk2⟩ <;> rcases p with ⟨m, hm1, hm2⟩ | ⟨m, hm1, hm3, hm2⟩
    ·have := zDs c0.tokd hk2 hm2 hTb hUb
     subst this; rw [hk1] at hm1; cases hm1; rfl
    ·have := zDs c0.tokd hk2 hm2 hTb hUb
     have := zAd hk1; omega
    ·have := zDs c0.tokd hk2 hm2 hTb hUb
     have := zAd hm1; omega
    ·have := zDs c0.tokd hk2 hm2 hTb hUb
     subst this; rw [hk3, hm3]
  ·refine ⟨(c0.imm b o ho).1, fun i hi => ?_⟩
   rcases rAll i b hi with q | ⟨j, q1, q2, q3⟩
   ·have hl : i < hp.H.length := by rw [h0.len]; exact zAd q
    by_cases hb : i ∈ bl
    ·obtain ⟨j, hj⟩ := List.mem_iff_getElem?.1 hb
     obtain ⟨m, e1, _, e3⟩ := hblG j i hj
     rw [q] at e1; cases e1
     exact Hin j i .gone hj ((c0.imm b o ho).2 j e3)
    ·rw [Hout i hl hb]
     exact (h0.imm b o (Iold b o ho (h0.lt b (List.mem_of_getElem? q)) (selr i b q hb))).2 i q
   ·subst q2
    exact Hnew j .gone q1 ((c0.imm b o ho).2 j q3)
 refine ⟨h.step hh hevo ⟨h1.keeps.os, h1.keeps.tape, h1.keeps.output, h1.keeps.size, fun b hb hn => h1.keeps.block b hb fun hm => hn (own_sel hm)⟩ (fun n hn => ?_) (fun n hn => ?_) (fun b o ho => ?_), hevo, hren⟩
 ·obtain ⟨b, hb⟩ := List.mem_iff_getElem?.1 hn
  rcases rAll b n hb with q | ⟨i, q1, _, q3⟩
  ·exact .inl (List.mem_of_getElem? q)
  ·exact .inr (newr1 i n q1 q3)
 ·obtain ⟨T, hT, hTb⟩ := mem_blks.1 hn
  obtain ⟨t, ht⟩ := List.mem_iff_getElem?.1 hT
  have sub : n ∈ blks (G.sel bl tl).tk → n ∈ blks G.tk := fun hm => by
   obtain ⟨U, hU, hUb⟩ := mem_blks.1 hm
   obtain ⟨u, _, hu⟩ := zB7 hU
   exact mem_blks.2 ⟨U, List.mem_of_getElem? hu, hUb⟩
  rcases tkAll t T ht with ⟨_, q2⟩ | q
  ·exact .inl (mem_blks.2 ⟨T, List.mem_of_getElem? q2, hTb⟩)
  ·obtain ⟨k, hk⟩ : ∃ k : Nat, g1.tk[k]? = some T := by rcases q with ⟨k, _, hk⟩ | ⟨k, _, _, hk⟩ <;> exact ⟨k, hk⟩
   exact (h1.newt n (mem_blks.2 ⟨T, List.mem_of_getElem? hk, hTb⟩)).imp sub id
 ·rcases h1.i1 b o ho with q | q | q
  ·exact .inl q
  ·exact .inr (.inl q)
  ·obtain ⟨U, hU, hUb⟩ := mem_blks.1 q
   obtain ⟨u, _, hu⟩ := zB7 hU
   exact .inr (.inr (mem_blks.2 ⟨U, List.mem_of_getElem? hu, hUb⟩))
theorem call_eff {M : Mod} {f : FuncId} {first cap args : List D} {K : D → Hp → Prop} {ds : List D} {hp0 : Hp} {R : D → Hp → Prop} (bl tl : List Nat) (h : Eff M f ds hp0 R) (hs : SelOk hp bl tl)
 (hd : D.rnL (posF bl) (posF tl) (first ++ args ++ cap) = ds) (hh : hp.sel bl tl = hp0)
 (hk : ∀ d hp1, R d hp1 → K (d.rn (bakF bl hp.H.length) (bakF tl hp.tk.length)) (hp.back bl tl hp1)) : CallOp M (.fn (.func f) first cap :: args) hp K := by
 intro w0 B w G vs hA hi hr
 obtain ⟨fv, av, rfl, h1, h2⟩ := hr.inv
 simp only [Rel] at h1
 obtain ⟨xs, ys, rfl, h3, h4⟩ := h1
 refine .inl ⟨f, xs.toArray, ys.toArray, av, rfl, h.1, ?_⟩
 have hall := RelL.rn _ (Ren.sel hi.heap hs) ((h3.append h2).append h4)
 have hhs := hi.heap.sel hs
 rw [hd] at hall
 rw [hh] at hhs
 have hamb : M.amb w (G.sel bl tl).own := M.up _ _ _ _ hA.1 hi.keeps fun n hn => hi.new n (own_sel hn)
 have hcall := h.2 w (G.sel bl tl) (xs ++ av ++ ys) hamb hhs hall
 have e : (xs.toArray ++ av.toArray ++ ys.toArray) = (xs ++ av ++ ys).toArray := by simp
 rw [e]
 refine Calls.mono hcall fun e w' hp' => ?_
 obtain ⟨v, d, hp1, g1, rfl, hR, g3, g4⟩ := hp'
 obtain ⟨q1, q2, q3⟩ := hi.back hs g3
 exact ⟨v, _, _, _, rfl, hk d hp1 hR, q1, q2, Rel.rn _ q3 g4⟩
theorem call_pur {M : Mod} {f : FuncId} {first cap args : List D} {K : D → Hp → Prop} {d : D} (hc : D.cL (first ++ args ++ cap) = true) (h : Pur M f (D.erL (first ++ args ++ cap)) d) (hk : K d hp) :
 CallOp M (.fn (.func f) first cap :: args) hp K := by
 intro w0 B w G vs hA hi hr
 obtain ⟨fv, av, rfl, h1, h2⟩ := hr.inv
 simp only [Rel] at h1
 obtain ⟨xs, ys, rfl, h3, h4⟩ := h1
 refine .inl ⟨f, xs.toArray, ys.toArray, av, rfl, h.1, ?_⟩
 have hs : SelOk hp [] [] := ⟨by simp, by simp, by simp, by simp⟩
 have hall := RelL.closed _ hc ((h3.append h2).append h4)
 have hhs := hi.heap.sel hs
 have e0 : G.sel [] [] = G.cl := rfl
 have e1 : hp.sel [] [] = ⟨[], []⟩ := rfl
 rw [e0, e1] at hhs
 have hcall := h.2 w G.cl (xs ++ av ++ ys) (M.up _ _ _ _ hA.1 hi.keeps fun n hn => by simp [Gh.own, Gh.cl, blks] at hn) hhs hall
 have e : (xs.toArray ++ av.toArray ++ ys.toArray) = (xs ++ av ++ ys).toArray := by simp
 rw [e]
 refine Calls.mono hcall fun e w' hp' => ?_
 obtain ⟨v, d', hp1, g1, rfl, ⟨rfl, rfl⟩, g3, g4⟩ := hp'
 rw [← e0] at g3
 obtain ⟨q1, q2, q3⟩ := hi.back hs g3
 have e2 : hp.back [] [] ⟨[], []⟩ = hp := by
  obtain ⟨H, tk⟩ := hp
  simp [Hp.back, putAt, Blk.rnL, Tv.rnL]
 rw [e2] at q1
 refine ⟨v, d', hp, _, rfl, hk, q1, q2, ?_⟩
 have hg1 : g1 = (G.back [] [] g1).cl := by
  have a1 := g3.heap.len
  have a2 := g3.heap.lent
  obtain ⟨r, tk, I⟩ := g1
  have b1 : r = [] := List.eq_nil_of_length_eq_zero a1.symm
  have b2 : tk = [] := List.eq_nil_of_length_eq_zero a2.symm
  subst b1; subst b2; rfl
 have this : Rel w' (G.back [] [] g1).cl d' v := hg1 ▸ g4
 exact this.any
end
end GoV
end