/- The engine, part o: functions that compute: from the body to the contract, and the contract at a call. Own work; no program in sight. -/
import Derived.Test.YtiodnobmnfjdlaaDoorEz
set_option linter.unusedSimpArgs false
namespace GoV
open Go

/-- How a result is read. -/
inductive RR where
  | slot (o : Opd)
  | cell (o : Opd) (ag : Bool) (n : Nat)

def resR (C : Cfg) : ResultVar → Option RR
  | .tmp t => (resO C (.tmp t)).map .slot
  | .cell t ty =>
    match resO C (.tmp t), szOf C.P ty, C.P.underlying ty with
    | some o, some n, some d => some (.cell o (isRowT d) (if isRowT d then n else 1))
    | _, _, _ => none

def resRs (C : Cfg) : List ResultVar → Option (List RR)
  | [] => some []
  | x :: xs => match resR C x, resRs C xs with
    | some y, some ys => some (y :: ys)
    | _, _ => none

def rrWp (r : RR) (s : St) (K : D → Prop) : Prop :=
  match r with
  | .slot o => K (s.get o)
  | .cell o ag n =>
    match s.get o with
    | .ptr b off => ∃ cs, s.hp.H[b]? = some (.cells cs) ∧ off + n ≤ cs.length ∧ K (if ag then .agg ((cs.drop off).take n) else cs.getD off .undef)
    | _ => False

def rrsWp : List RR → St → (List D → Prop) → Prop
  | [], _, K => K []
  | r :: rs, s, K => rrWp r s fun d => rrsWp rs s fun ds => K (d :: ds)

def oneOrTup : List D → D
  | [d] => d
  | ds => .tup ds

def resV (tmps : Array Value) : ResultVar → Sem Value
  | .tmp t => pure (tmps.getD t Go.undef)
  | .cell t ty => do loadVar ty (← asAddr (tmps.getD t Go.undef))

theorem rr_run {C : Cfg} {w0 B G} {s : St} {a : Act} {w : World} (hi : Inv w0 B s.hp w G) (hs : ∀ t, Rel w G (s.slot C.pers t) (a.tmps.getD t Go.undef))
    {x : ResultVar} {r : RR} (hr : resR C x = some r) {K : D → Prop} (h : rrWp r s K) :
    ∃ d v, K d ∧ Rel w G d v ∧ (resV a.tmps x).run C.P w = .ok v w := by
  cases x with
  | tmp t =>
    simp only [resR] at hr
    cases ho : resO C (.tmp t) with
    | none => simp [ho] at hr
    | some o =>
      simp [ho] at hr; subst hr
      exact ⟨_, _, h, resO_rel hs ho, rfl⟩
  | cell t ty =>
    simp only [resR] at hr
    cases ho : resO C (.tmp t) with
    | none => simp [ho] at hr
    | some o =>
      cases hz : szOf C.P ty with
      | none => simp [ho, hz] at hr
      | some n =>
        cases hu : C.P.underlying ty with
        | none => simp [ho, hz, hu] at hr
        | some d =>
          simp [ho, hz, hu] at hr; subst hr
          have hv := resO_rel hs ho
          simp only [rrWp] at h
          split at h <;> first
            | exact h.elim
            | skip
          rename_i b off hb
          obtain ⟨cs, h1, h2, h⟩ := h
          rw [hb] at hv
          simp only [Rel] at hv
          obtain ⟨nb, hn, hx⟩ := hv
          have hx' : a.tmps.getD t Go.undef = .pointer (some ⟨nb, off, none⟩) := hx
          obtain ⟨xs, e, _, g2, g3, g4⟩ := blk_cells hi h1 hn
          have hlen := g2.length
          have conv : ∀ v, (Instr.loadAt ty (.pointer (some ⟨nb, off, none⟩))).run C.P w = .ok v w → (loadVar ty ⟨nb, off, none⟩).run C.P w = .ok v w := by
            intro v hv; simpa [Instr.loadAt, Instr.sureAddr] using hv
          cases hd : isRowT d <;> simp only [hd, if_true, if_false, Bool.false_eq_true] at h h2
          · have hlt : off < xs.length := by omega
            refine ⟨_, _, h, g2.getD (List.getElem?_eq_getElem hlt), ?_⟩
            simp [resV, hx', asAddr, conv _ (run_loadAt_one (P := C.P) hu hd xs[off] nb off (g4 off _ (List.getElem?_eq_getElem hlt)))]
          · refine ⟨_, .agg ((xs.drop off).take n).toArray, h, ?_, ?_⟩
            · simp only [Rel]
              exact ⟨_, rfl, (g2.drop off).take n, fun y hy => g3 y (List.mem_of_mem_drop (List.mem_of_mem_take hy))⟩
            · have hlen2 : ((xs.drop off).take n).length = n := by simp; omega
              have := conv _ (run_loadAt_row (P := C.P) (w := w) hu hd ((xs.drop off).take n) (by rw [hlen2]; exact hz) nb off (fun j y hj => by
                rw [List.getElem?_take] at hj
                split at hj
                · rw [List.getElem?_drop] at hj; exact g4 _ _ hj
                · cases hj))
              simp [resV, hx', asAddr, this]

theorem rrs_run {C : Cfg} {w0 B G} {s : St} {a : Act} {w : World} (hi : Inv w0 B s.hp w G) (hs : ∀ t, Rel w G (s.slot C.pers t) (a.tmps.getD t Go.undef)) :
    ∀ {xs : List ResultVar} {rs : List RR} {K : List D → Prop}, resRs C xs = some rs → rrsWp rs s K →
    ∃ ds vs, K ds ∧ RelL w G ds vs ∧ (xs.mapM (resV a.tmps)).run C.P w = .ok vs w
  | [], rs, K, hr, h => by
    simp [resRs] at hr; subst hr
    exact ⟨[], [], h, RelL.nil, by simp⟩
  | x :: xs, rs, K, hr, h => by
    simp only [resRs] at hr
    cases h1 : resR C x with
    | none => simp [h1] at hr
    | some r =>
      cases h2 : resRs C xs with
      | none => simp [h1, h2] at hr
      | some rs' =>
        simp [h1, h2] at hr; subst hr
        obtain ⟨d, v, k1, k2, k3⟩ := rr_run (a := a) hi hs h1 h
        obtain ⟨ds, vs, k4, k5, k6⟩ := rrs_run (a := a) hi hs h2 k1
        refine ⟨d :: ds, v :: vs, k4, RelL.cons k2 k5, ?_⟩
        rw [List.mapM_cons, Sem.run_bind]
        simp only [k3, Result.andThen_ok, Sem.run_bind, k6, Sem.run_pure]

theorem results_run {C : Cfg} {fn : Func} {w0 B G} {s : St} {a : Act} {w : World} (hi : Inv w0 B s.hp w G) (hs : ∀ t, Rel w G (s.slot C.pers t) (a.tmps.getD t Go.undef))
    {rs : List RR} {K : List D → Prop} (hr : resRs C fn.results.toList = some rs) (h : rrsWp rs s K) :
    ∃ ds v, K ds ∧ Rel w G (oneOrTup ds) v ∧ (results fn a.tmps).run C.P w = .ok v w := by
  obtain ⟨ds, vs, h1, h2, h3⟩ := rrs_run (a := a) hi hs hr h
  have hrun : (fn.results.mapM (resV a.tmps)).run C.P w = .ok vs.toArray w := by
    rw [← Array.toArray_toList (xs := fn.results), List.mapM_toArray, Sem.run_map, h3]
    rfl
  refine ⟨ds, if h : vs.toArray.size = 1 then vs.toArray[0] else .tuple vs.toArray, h1, ?_, ?_⟩
  · match ds, vs, h2 with
    | [], vs, h2 => rw [h2.inv_nil]; simpa [oneOrTup, Rel] using RelL.nil
    | [d], vs, h2 =>
      obtain ⟨y, ys, rfl, g1, g2⟩ := h2.inv
      rw [g2.inv_nil]; simpa [oneOrTup] using g1
    | d :: e :: l, vs, h2 =>
      have hl := h2.length
      have : vs.toArray.size ≠ 1 := by simp at hl ⊢; omega
      rw [dif_neg this]
      simp only [oneOrTup, Rel]
      exact ⟨vs, rfl, h2⟩
  · change ((fn.results.mapM (resV a.tmps)) >>= fun vs => (pure (if h : vs.size = 1 then vs[0] else .tuple vs) : Sem Value)).run C.P w = _
    rw [Sem.run_bind, hrun]
    rfl

/-- Where a function begins. -/
def St.init (C : Cfg) (args : List D) (hp : Hp) : St := { env := args ++ List.replicate (C.pers.length - args.length) .undef, scr := [], hp := hp }

/-- THE CONTRACT FROM THE BODY. -/
theorem eff_of_body {C : Cfg} {f : FuncId} {fn : Func} {c : Code} {rc : RC} {rs : List RR} (hf : C.P.funcs[f]? = some fn) (hb : fn.body = some c) (hnt : fn.ntmps = C.nt) (hrc : resCode C c = some rc) (hrs : resRs C fn.results.toList = some rs)
    {args : List D} {hp : Hp} {R : D → Hp → Prop} (hname : (fn.name == "runtime.NumGoroutine") = false) (hpl : C.pers.take args.length = List.range args.length) (hlt : args.length ≤ C.nt) (hn0 : C.n0 = hp.H.length) (hm0 : C.m0 = hp.tk.length)
    (h : SWp C rc (fun e s => (match e with | .exit _ => False | _ => True) ∧ ∃ s1, Weak C s s1 ∧ rrsWp rs s1 fun ds => R (oneOrTup ds) s1.hp) (St.init C args hp)) :
    Eff C.M f args hp R := by
  refine ⟨⟨fn, hf, by simp [hb], hname⟩, fun w g xs hA hH hargs => ?_⟩
  have hal : args.length ≤ C.pers.length := by
    have := congrArg List.length hpl
    simp at this; omega
  have hxl := hargs.length
  refine calls_of_wp hf hb ?_
  have hinv : Inv w g hp w g := ⟨hH, Evo.refl _ _, Keeps.refl _ _, fun n hn => .inl hn, fun n hn => .inl hn, fun b o hb => .inl hb⟩
  have hsim : Sim C w g (St.init C args hp) { tmps := xs.toArray ++ Array.replicate (fn.ntmps - xs.toArray.size) Go.undef, defers := [] } w := by
    refine ⟨g, hinv, ⟨by rw [hn0, hH.len], by rw [hm0, hH.lent]⟩, by simp; omega, rfl, by simp [St.init]; omega, fun t => ?_⟩
    unfold St.slot St.init
    split
    · rename_i i hi
      have hti := idx_some hi
      by_cases hlt2 : i < args.length
      · have ht : t = i := by
          have h1 : (C.pers.take args.length)[i]? = some t := by rw [List.getElem?_take, if_pos hlt2]; exact hti
          rw [hpl] at h1
          simp [List.getElem?_range, hlt2] at h1
          exact h1.symm
        subst ht
        obtain ⟨x, hx1, hx2⟩ := hargs.get (List.getElem?_eq_getElem hlt2)
        have e1 : (args ++ List.replicate (C.pers.length - args.length) D.undef).getD t .undef = args[t] := by
          simp [List.getD, List.getElem?_append_left hlt2, hlt2]
        have e2 : (xs.toArray ++ Array.replicate (fn.ntmps - xs.toArray.size) Go.undef).getD t Go.undef = x := by
          have hlx : t < xs.length := by omega
          rw [Array.getD_eq_getD_getElem?, Array.getElem?_append_left (by simpa using hlx)]
          simp [hx1]
        rw [e1, e2]; exact hx2
      · have e1 : (args ++ List.replicate (C.pers.length - args.length) D.undef).getD i .undef = .undef := by
          simp only [List.getD, List.getElem?_append_right (Nat.le_of_not_lt hlt2), List.getElem?_replicate]
          split <;> rfl
        rw [e1]; simp [Rel]
    · simp [lk, Rel]
  refine wp_mono (h.run c hrc w g hA _ w hsim) fun e a' w' hl => ?_
  have fin : ∀ s, Sim C w g s a' w' → (∃ s1, Weak C s s1 ∧ rrsWp rs s1 fun ds => R (oneOrTup ds) s1.hp) →
      a'.defers = [] ∧ ∃ v, (results fn a'.tmps).run C.P w' = .ok v w' ∧ Post w g R (.returned v) w' := by
    intro s hs hrr
    obtain ⟨s1, hw, hrr⟩ := hrr
    obtain ⟨G, g0, gb, g1, g2, g3, g4⟩ := hw _ _ _ _ hs
    obtain ⟨ds, v, k1, k4, k5⟩ := results_run (a := a') (fn := fn) g0 g4 hrs hrr
    exact ⟨g2, v, k5, v, _, _, G, rfl, k1, g0, k4⟩
  cases e <;> simp only [Lift, bodyPost] at hl ⊢
  · obtain ⟨s, h1, _, h2⟩ := hl; exact fin s h1 h2
  · obtain ⟨s, h1, h3, h2⟩ := hl; exact h3.elim
  · obtain ⟨s, h1, _, h2⟩ := hl; exact fin s h1 h2

theorem rrs_mono {K K' : List D → Prop} : ∀ {rs : List RR} {s : St}, rrsWp rs s K → (∀ ds, K ds → K' ds) → rrsWp rs s K'
  | [], s, h, hk => hk _ h
  | .slot o :: rs, s, h, hk => rrs_mono (rs := rs) h fun ds hd => hk _ hd
  | .cell o ag n :: rs, s, h, hk => by
    simp only [rrsWp, rrWp] at h ⊢
    split at h
    · obtain ⟨cs, h1, h2, h3⟩ := h
      exact ⟨cs, h1, h2, rrs_mono (rs := rs) h3 fun ds hd => hk _ hd⟩
    · exact h

theorem pur_of_eff {M : Mod} {f : FuncId} {args : List D} {d : D} (h : Eff M f args ⟨[], []⟩ fun d' _ => d'.closed = true ∧ d'.er = d) : Pur M f args d := by
  refine ⟨h.1, fun w g xs hA hH hargs => (h.2 w g xs hA hH hargs).mono fun e w' hp => ?_⟩
  obtain ⟨v, d', hp', G, rfl, ⟨h1, h2⟩, h3, h4⟩ := hp
  have hg : g = ⟨[], [], g.I⟩ := by
    obtain ⟨r, tk, I⟩ := g
    have e1 : r = [] := List.eq_nil_of_length_eq_zero hH.len.symm
    have e2 : tk = [] := List.eq_nil_of_length_eq_zero hH.lent.symm
    subst e1; subst e2; rfl
  rw [hg] at h3 ⊢
  refine ⟨v, d, ⟨[], []⟩, G.cl, rfl, ⟨rfl, rfl⟩, h3.none, ?_⟩
  rw [← h2]
  exact Rel.closed _ h1 h4

/-- THE CONTRACT FROM THE BODY, of a function that computes. -/
theorem pur_of_bodyW {C : Cfg} {f : FuncId} {fn : Func} {c : Code} {rc : RC} {rs : List RR} (hf : C.P.funcs[f]? = some fn) (hb : fn.body = some c) (hnt : fn.ntmps = C.nt) (hrc : resCode C c = some rc) (hrs : resRs C fn.results.toList = some rs)
    {args : List D} {d : D} (hname : (fn.name == "runtime.NumGoroutine") = false) (hpl : C.pers.take args.length = List.range args.length) (hlt : args.length ≤ C.nt) (hn0 : C.n0 = 0) (hm0 : C.m0 = 0)
    (h : SWp C rc (fun e s => (match e with | .exit _ => False | _ => True) ∧ ∃ s1, Weak C s s1 ∧ rrsWp rs s1 fun ds => D.closed (oneOrTup ds) = true ∧ (oneOrTup ds).er = d) (St.init C args ⟨[], []⟩)) : Pur C.M f args d :=
  pur_of_eff (eff_of_body hf hb hnt hrc hrs hname hpl hlt hn0 hm0 h)

theorem pur_of_body {C : Cfg} {f : FuncId} {fn : Func} {c : Code} {rc : RC} {rs : List RR} (hf : C.P.funcs[f]? = some fn) (hb : fn.body = some c) (hnt : fn.ntmps = C.nt) (hrc : resCode C c = some rc) (hrs : resRs C fn.results.toList = some rs)
    {args : List D} {d : D} (hname : (fn.name == "runtime.NumGoroutine") = false) (hpl : C.pers.take args.length = List.range args.length) (hlt : args.length ≤ C.nt) (hn0 : C.n0 = 0) (hm0 : C.m0 = 0)
    (h : SWp C rc (fun e s => (match e with | .exit _ => False | _ => True) ∧ rrsWp rs s fun ds => D.closed (oneOrTup ds) = true ∧ (oneOrTup ds).er = d) (St.init C args ⟨[], []⟩)) : Pur C.M f args d :=
  pur_of_bodyW hf hb hnt hrc hrs hname hpl hlt hn0 hm0 (swp_mono h fun _ s hq => ⟨s, weak_refl, hq.1, s, weak_refl, hq.2⟩)

/-! ### Calls -/

/-- The place of a number in a row. -/
def posF (l : List Nat) (b : Nat) : Option Nat := idx b l
/-- Back: the row's own numbers first, then new ones. -/
def bakF (l : List Nat) (n : Nat) (i : Nat) : Option Nat := if i < l.length then l[i]? else some (n + (i - l.length))

def Gh.sel (g : Gh) (bl tl : List Nat) : Gh := ⟨bl.filterMap (g.r[·]?), tl.filterMap (g.tk[·]?), g.I⟩

/-- What a call is shown of the store. -/
def Hp.sel (hp : Hp) (bl tl : List Nat) : Hp := ⟨Blk.rnL (posF bl) (posF tl) (bl.map (hp.H.getD · .gone)), Tv.rnL (posF bl) (posF tl) (tl.map (hp.tk.getD · (.per 0 0)))⟩

def putAt {α : Type} : List Nat → List α → List α → List α
  | b :: bl, x :: xs, H => putAt bl xs (H.set b x)
  | _, _, H => H

/-- What the store is behind a call. -/
def Hp.back (hp : Hp) (bl tl : List Nat) (hp1 : Hp) : Hp :=
  ⟨putAt bl (Blk.rnL (bakF bl hp.H.length) (bakF tl hp.tk.length) (hp1.H.take bl.length)) hp.H ++ Blk.rnL (bakF bl hp.H.length) (bakF tl hp.tk.length) (hp1.H.drop bl.length),
   putAt tl (Tv.rnL (bakF bl hp.H.length) (bakF tl hp.tk.length) (hp1.tk.take tl.length)) hp.tk ++ Tv.rnL (bakF bl hp.H.length) (bakF tl hp.tk.length) (hp1.tk.drop tl.length)⟩

theorem putAt_length {α : Type} : ∀ (bl : List Nat) (xs H : List α), (putAt bl xs H).length = H.length
  | [], _, _ => by simp [putAt]
  | _ :: _, [], _ => by simp [putAt]
  | b :: bl, x :: xs, H => by simp [putAt, putAt_length bl xs]

theorem putAt_out {α : Type} : ∀ (bl : List Nat) (xs H : List α) (j : Nat), j ∉ bl → (putAt bl xs H)[j]? = H[j]?
  | [], _, _, _, _ => by simp [putAt]
  | _ :: _, [], _, _, _ => by simp [putAt]
  | b :: bl, x :: xs, H, j, h => by
    simp only [List.mem_cons, not_or] at h
    simp only [putAt]
    rw [putAt_out bl xs _ j h.2, List.getElem?_set, if_neg (fun e => h.1 e.symm)]

theorem putAt_in {α : Type} : ∀ (bl : List Nat) (xs H : List α) (i b : Nat) (x : α), bl.Nodup → bl[i]? = some b → xs[i]? = some x → b < H.length → (putAt bl xs H)[b]? = some x
  | [], _, _, i, _, _, _, h, _, _ => by simp at h
  | _ :: _, [], _, i, _, _, _, _, h, _ => by simp at h
  | c :: bl, y :: xs, H, 0, b, x, hn, h1, h2, h3 => by
    simp at h1 h2; subst h1; subst h2
    simp only [putAt]
    rw [putAt_out bl xs _ c (List.nodup_cons.1 hn).1]
    simp [h3]
  | c :: bl, y :: xs, H, i + 1, b, x, hn, h1, h2, h3 => by
    simp only [putAt]
    exact putAt_in bl xs _ i b x (List.nodup_cons.1 hn).2 (by simpa using h1) (by simpa using h2) (by simpa using h3)

theorem sel_get {α : Type} {l : List α} : ∀ {bl : List Nat}, (∀ b ∈ bl, b < l.length) → (bl.filterMap (l[·]?)).length = bl.length ∧ ∀ (i b : Nat), bl[i]? = some b → (bl.filterMap (l[·]?))[i]? = l[b]?
  | [], _ => by simp
  | b :: bl, h => by
    obtain ⟨h1, h2⟩ := sel_get (l := l) (bl := bl) fun c hc => h c (by simp [hc])
    have hb := h b (by simp)
    have e : l[b]? = some l[b] := List.getElem?_eq_getElem hb
    rw [List.filterMap_cons_some e]
    refine ⟨by simp [h1], fun i c hi => ?_⟩
    cases i with
    | zero => simp at hi; subst hi; simp [hb]
    | succ i => simpa using h2 i c (by simpa using hi)

theorem idx_of_get : ∀ {l : List Nat} {i b : Nat}, l.Nodup → l[i]? = some b → idx b l = some i
  | [], _, _, _, h => by simp at h
  | c :: l, 0, b, _, h => by simp at h; subst h; simp [idx]
  | c :: l, i + 1, b, hn, h => by
    have h' : l[i]? = some b := by simpa using h
    have hne : c ≠ b := fun e => by subst e; exact (List.nodup_cons.1 hn).1 (List.mem_of_getElem? h')
    simp [idx, hne, idx_of_get (List.nodup_cons.1 hn).2 h']

theorem bak_pos {l : List Nat} {n i b : Nat} (h : l[i]? = some b) : bakF l n i = some b := by
  unfold bakF; rw [if_pos (lt_of_get h), h]

/-- What a call may be shown. -/
structure SelOk (hp : Hp) (bl tl : List Nat) : Prop where
  bn : bl.Nodup
  tn : tl.Nodup
  bl_ : ∀ b ∈ bl, b < hp.H.length
  tl_ : ∀ t ∈ tl, t < hp.tk.length

section
variable {w0 : World} {B G : Gh} {hp : Hp} {w : World} {bl tl : List Nat}

theorem Ren.sel (h : HeapRel w G hp) (hs : SelOk hp bl tl) : Ren (posF bl) (posF tl) G (G.sel bl tl) := by
  obtain ⟨_, r2⟩ := sel_get (l := G.r) (bl := bl) fun b hb => by rw [← h.len]; exact hs.bl_ b hb
  obtain ⟨_, t2⟩ := sel_get (l := G.tk) (bl := tl) fun b hb => by rw [← h.lent]; exact hs.tl_ b hb
  refine ⟨rfl, fun b i n h1 h2 => ?_, fun t i T h1 h2 => ?_⟩
  · exact (r2 i b (idx_some h1)).trans h2
  · exact (t2 i t (idx_some h1)).trans h2

theorem mem_sel {α : Type} {l : List α} {bl : List Nat} {x : α} (h : x ∈ bl.filterMap (l[·]?)) : ∃ b ∈ bl, l[b]? = some x := by simpa [List.mem_filterMap] using h

theorem nodup_sel {l : List Nat} : ∀ {bl : List Nat}, l.Nodup → bl.Nodup → (bl.filterMap (l[·]?)).Nodup
  | [], _, _ => by simp
  | b :: bl, hl, hb => by
    obtain ⟨h1, h2⟩ := List.nodup_cons.1 hb
    have ih := nodup_sel hl h2
    cases e : l[b]? with
    | none => rw [List.filterMap_cons_none e]; exact ih
    | some x =>
      rw [List.filterMap_cons_some e, List.nodup_cons]
      refine ⟨fun hm => ?_, ih⟩
      obtain ⟨c, hc, hx⟩ := mem_sel hm
      have := nodup_inj hl e hx
      subst this; exact h1 hc

theorem blks_sel {l : List Tk} : ∀ {tl : List Nat}, (blks l).Nodup → tl.Nodup → (blks (tl.filterMap (l[·]?))).Nodup
  | [], _, _ => by simp [blks]
  | t :: tl, hl, ht => by
    obtain ⟨h1, h2⟩ := List.nodup_cons.1 ht
    have ih := blks_sel hl h2
    cases e : l[t]? with
    | none => rw [List.filterMap_cons_none e]; exact ih
    | some T =>
      rw [List.filterMap_cons_some e]
      unfold blks at ih ⊢
      cases hb : T.blk with
      | none => rw [List.filterMap_cons_none hb]; exact ih
      | some b =>
        rw [List.filterMap_cons_some hb, List.nodup_cons]
        refine ⟨fun hm => ?_, ih⟩
        obtain ⟨U, hU, hUb⟩ := List.mem_filterMap.1 hm
        obtain ⟨u, hu, hue⟩ := mem_sel hU
        have := tk_inj hl e hue hb hUb
        subst this; exact h1 hu

/-- THE STORE THAT A CALL IS SHOWN. -/
theorem HeapRel.sel (h : HeapRel w G hp) (hs : SelOk hp bl tl) : HeapRel w (G.sel bl tl) (hp.sel bl tl) := by
  have hr := Ren.sel h hs
  obtain ⟨r1, r2⟩ := sel_get (l := G.r) (bl := bl) fun b hb => by rw [← h.len]; exact hs.bl_ b hb
  obtain ⟨t1, t2⟩ := sel_get (l := G.tk) (bl := tl) fun b hb => by rw [← h.lent]; exact hs.tl_ b hb
  refine ⟨?_, fun i C n hC hn => ?_, fun n hn => ?_, nodup_sel h.nodup hs.bn, ?_, fun i V T hV hT => ?_, fun T hT => ?_, blks_sel h.tokd hs.tn, fun b o ho => ⟨(h.imm b o ho).1, fun i hi => ?_⟩⟩
  · simp only [Hp.sel, Gh.sel, Blk.rnL_eq, List.length_map]; exact r1.symm
  · simp only [Hp.sel, Blk.rnL_eq, List.getElem?_map, Option.map_eq_some_iff] at hC
    obtain ⟨C', ⟨b, hb, rfl⟩, rfl⟩ := hC
    have hl := hs.bl_ b (List.mem_of_getElem? hb)
    have hn' : G.r[b]? = some n := by rw [← r2 i b hb]; exact hn
    have e : hp.H[b]? = some (hp.H.getD b .gone) := by simp [List.getD, hl]
    exact (h.blk b _ n e hn').rn hr
  · obtain ⟨b, _, hb⟩ := mem_sel hn
    exact h.lt n (List.mem_of_getElem? hb)
  · simp only [Hp.sel, Gh.sel, Tv.rnL_eq, List.length_map]; exact t1.symm
  · simp only [Hp.sel, Tv.rnL_eq, List.getElem?_map, Option.map_eq_some_iff] at hV
    obtain ⟨V', ⟨t, ht, rfl⟩, rfl⟩ := hV
    have hl := hs.tl_ t (List.mem_of_getElem? ht)
    have hT' : G.tk[t]? = some T := by rw [← t2 i t ht]; exact hT
    have e : hp.tk[t]? = some (hp.tk.getD t (.per 0 0)) := by simp [List.getD, hl]
    exact (h.tv t _ T e hT').rn hr
  · obtain ⟨t, _, ht⟩ := mem_sel hT
    refine (h.tok T (List.mem_of_getElem? ht)).keep (fun _ _ => rfl) fun b _ hb hm => hb ?_
    obtain ⟨c, _, hc⟩ := mem_sel hm
    exact List.mem_of_getElem? hc
  · have hi' : (bl.filterMap (G.r[·]?))[i]? = some b := hi
    have hlt : i < bl.length := by rw [← r1]; exact lt_of_get hi'
    have hbi := List.getElem?_eq_getElem hlt
    have hG : G.r[bl[i]]? = some b := by rw [← r2 i _ hbi]; exact hi'
    have := (h.imm b o ho).2 _ hG
    simp only [Hp.sel, Blk.rnL_eq, List.getElem?_map, hbi, Option.map_some, List.getD, this]
    rfl

theorem own_sel {n : Nat} (h : n ∈ (G.sel bl tl).own) : n ∈ G.own := by
  rcases List.mem_append.1 h with q | q
  · obtain ⟨b, _, hb⟩ := mem_sel q
    exact List.mem_append.2 (.inl (List.mem_of_getElem? hb))
  · obtain ⟨T, hT, hTb⟩ := mem_blks.1 q
    obtain ⟨t, _, ht⟩ := mem_sel hT
    exact List.mem_append.2 (.inr (mem_blks.2 ⟨T, List.mem_of_getElem? ht, hTb⟩))

/-- The whole store behind a call. -/
def Gh.back (G : Gh) (bl tl : List Nat) (g1 : Gh) : Gh := ⟨G.r ++ g1.r.drop bl.length, putAt tl (g1.tk.take tl.length) G.tk ++ g1.tk.drop tl.length, g1.I⟩

theorem drop_get {α : Type} {l : List α} {n i : Nat} {x : α} (h : (l.drop n)[i]? = some x) : l[n + i]? = some x := by rwa [List.getElem?_drop] at h

theorem mem_putAt {α : Type} : ∀ {bl : List Nat} {xs H : List α} {x : α}, x ∈ putAt bl xs H → x ∈ xs ∨ ∃ j : Nat, j ∉ bl.take xs.length ∧ H[j]? = some x
  | [], xs, H, x, h => by
    simp only [putAt] at h
    obtain ⟨j, hj⟩ := List.mem_iff_getElem?.1 h
    exact .inr ⟨j, by simp, hj⟩
  | _ :: _, [], H, x, h => by
    simp only [putAt] at h
    obtain ⟨j, hj⟩ := List.mem_iff_getElem?.1 h
    exact .inr ⟨j, by simp, hj⟩
  | b :: bl, y :: xs, H, x, h => by
    simp only [putAt] at h
    rcases mem_putAt h with q | ⟨j, q1, q2⟩
    · exact .inl (by simp [q])
    · rw [List.getElem?_set] at q2
      by_cases e : b = j
      · subst e
        split at q2
        · split at q2
          · cases q2; exact .inl (by simp)
          · cases q2
        · exact absurd rfl (by assumption)
      · rw [if_neg e] at q2
        refine .inr ⟨j, ?_, q2⟩
        simp only [List.length_cons, List.take_succ_cons, List.mem_cons, not_or]
        exact ⟨fun q => e q.symm, q1⟩

theorem nodup_blks : ∀ {l : List Tk}, (∀ (i j : Nat) (T U : Tk) (n : Nat), l[i]? = some T → l[j]? = some U → T.blk = some n → U.blk = some n → i = j) → (blks l).Nodup
  | [], _ => by simp [blks]
  | T :: l, h => by
    have ih := nodup_blks (l := l) fun i j U V n hi hj h1 h2 => by
      have := h (i + 1) (j + 1) U V n (by simpa using hi) (by simpa using hj) h1 h2
      omega
    unfold blks at ih ⊢
    cases hb : T.blk with
    | none => rw [List.filterMap_cons_none hb]; exact ih
    | some b =>
      rw [List.filterMap_cons_some hb, List.nodup_cons]
      refine ⟨fun hm => ?_, ih⟩
      obtain ⟨U, hU, hUb⟩ := List.mem_filterMap.1 hm
      obtain ⟨j, hj⟩ := List.mem_iff_getElem?.1 hU
      have := h 0 (j + 1) T U b (by simp) (by simpa using hj) hb hUb
      omega

/-- THE STORE BEHIND A CALL. -/
theorem Inv.back {w' : World} {hp1 : Hp} {g1 : Gh} (h : Inv w0 B hp w G) (hs : SelOk hp bl tl) (h1 : Inv w (G.sel bl tl) hp1 w' g1) :
    Inv w0 B (hp.back bl tl hp1) w' (G.back bl tl g1) ∧ Evo w G w' (G.back bl tl g1) ∧ Ren (bakF bl hp.H.length) (bakF tl hp.tk.length) g1 (G.back bl tl g1) := by
  have h0 := h.heap
  have c0 := h1.heap
  obtain ⟨r1, r2⟩ := sel_get (l := G.r) (bl := bl) fun b hb => by rw [← h0.len]; exact hs.bl_ b hb
  obtain ⟨t1, t2⟩ := sel_get (l := G.tk) (bl := tl) fun b hb => by rw [← h0.lent]; exact hs.tl_ b hb
  have hblG : ∀ i b : Nat, bl[i]? = some b → ∃ n, G.r[b]? = some n ∧ (G.sel bl tl).r[i]? = some n ∧ g1.r[i]? = some n := by
    intro i b hb
    have hl : b < G.r.length := by rw [← h0.len]; exact hs.bl_ b (List.mem_of_getElem? hb)
    have e1 := List.getElem?_eq_getElem hl
    have e2 : (G.sel bl tl).r[i]? = some G.r[b] := (r2 i b hb).trans e1
    exact ⟨_, e1, e2, h1.evo.ref i _ e2⟩
  have htlG : ∀ i t : Nat, tl[i]? = some t → ∃ T T1, G.tk[t]? = some T ∧ (G.sel bl tl).tk[i]? = some T ∧ g1.tk[i]? = some T1 ∧ T1.k = T.k ∧ (T1 = T ∨ T.len < T1.len) := by
    intro i t ht
    have hl : t < G.tk.length := by rw [← h0.lent]; exact hs.tl_ t (List.mem_of_getElem? ht)
    have e1 := List.getElem?_eq_getElem hl
    have e2 : (G.sel bl tl).tk[i]? = some G.tk[t] := (t2 i t ht).trans e1
    obtain ⟨T1, q1, q2⟩ := h1.evo.tok i _ e2
    exact ⟨_, T1, e1, e2, q1, q2⟩
  have hbl1 : bl.length ≤ g1.r.length := by
    rcases Nat.lt_or_ge g1.r.length bl.length with q | q
    · obtain ⟨n, _, _, e⟩ := hblG g1.r.length _ (List.getElem?_eq_getElem q)
      simp at e
    · exact q
  have htl1 : tl.length ≤ g1.tk.length := by
    rcases Nat.lt_or_ge g1.tk.length tl.length with q | q
    · obtain ⟨T, T1, _, _, e, _⟩ := htlG g1.tk.length _ (List.getElem?_eq_getElem q)
      simp at e
    · exact q
  have htake : (g1.tk.take tl.length).length = tl.length := by simp; omega
  -- places behind the call
  have rOld : ∀ b n : Nat, G.r[b]? = some n → (G.back bl tl g1).r[b]? = some n := fun b n hb => by
    show (G.r ++ g1.r.drop bl.length)[b]? = some n
    rw [List.getElem?_append_left (lt_of_get hb)]; exact hb
  have rNew : ∀ i n : Nat, bl.length ≤ i → g1.r[i]? = some n → (G.back bl tl g1).r[hp.H.length + (i - bl.length)]? = some n := fun i n hi hn => by
    show (G.r ++ g1.r.drop bl.length)[_]? = some n
    rw [List.getElem?_append_right (by rw [← h0.len]; omega), ← h0.len, List.getElem?_drop, ← hn]
    congr 1; omega
  have tOut : ∀ (t : Nat) (T : Tk), t ∉ tl → G.tk[t]? = some T → (G.back bl tl g1).tk[t]? = some T := fun t T ht hT => by
    show (putAt tl (g1.tk.take tl.length) G.tk ++ g1.tk.drop tl.length)[t]? = some T
    rw [List.getElem?_append_left (by rw [putAt_length]; exact lt_of_get hT), putAt_out _ _ _ _ ht]; exact hT
  have tIn : ∀ (i t : Nat) (T1 : Tk), tl[i]? = some t → g1.tk[i]? = some T1 → (G.back bl tl g1).tk[t]? = some T1 := fun i t T1 ht hT => by
    have hl : t < G.tk.length := by rw [← h0.lent]; exact hs.tl_ t (List.mem_of_getElem? ht)
    show (putAt tl (g1.tk.take tl.length) G.tk ++ g1.tk.drop tl.length)[t]? = some T1
    rw [List.getElem?_append_left (by rw [putAt_length]; exact hl)]
    exact putAt_in _ _ _ i t T1 hs.tn ht (by rw [List.getElem?_take, if_pos (lt_of_get ht)]; exact hT) hl
  have tNew : ∀ (i : Nat) (T1 : Tk), tl.length ≤ i → g1.tk[i]? = some T1 → (G.back bl tl g1).tk[hp.tk.length + (i - tl.length)]? = some T1 := fun i T1 hi hT => by
    show (putAt tl (g1.tk.take tl.length) G.tk ++ g1.tk.drop tl.length)[_]? = some T1
    rw [List.getElem?_append_right (by rw [putAt_length, ← h0.lent]; omega), putAt_length, ← h0.lent, List.getElem?_drop, ← hT]
    congr 1; omega
  have hren : Ren (bakF bl hp.H.length) (bakF tl hp.tk.length) g1 (G.back bl tl g1) := by
    refine ⟨rfl, fun i b n hi hn => ?_, fun i t T hi hT => ?_⟩
    · unfold bakF at hi
      split at hi
      · rename_i hlt
        obtain ⟨m, q1, _, q3⟩ := hblG i b hi
        rw [hn] at q3; cases q3
        exact rOld b n q1
      · cases hi; exact rNew i n (by omega) hn
    · unfold bakF at hi
      split at hi
      · exact tIn i t T hi hT
      · cases hi; exact tNew i T (by omega) hT
  have hevo : Evo w G w' (G.back bl tl g1) := by
    refine ⟨fun b o ho => h1.evo.imm b o ho, rOld, fun t T hT => ?_⟩
    by_cases ht : t ∈ tl
    · obtain ⟨i, hi⟩ := List.mem_iff_getElem?.1 ht
      obtain ⟨T0, T1, q1, _, q3, q4⟩ := htlG i t hi
      rw [hT] at q1; cases q1
      exact ⟨T1, tIn i t T1 hi q3, q4⟩
    · exact ⟨T, tOut t T ht hT, rfl, .inl rfl⟩
  -- what the call was not shown
  have selr : ∀ (b n : Nat), G.r[b]? = some n → b ∉ bl → n ∉ (G.sel bl tl).own := by
    intro b n hb hnb hm
    rcases List.mem_append.1 hm with q | q
    · obtain ⟨c, hc, hcn⟩ := mem_sel q
      have := nodup_inj h0.nodup hb hcn
      subst this; exact hnb hc
    · obtain ⟨T, hT, hTb⟩ := mem_blks.1 q
      obtain ⟨t, _, ht⟩ := mem_sel hT
      exact ((h0.tok T (List.mem_of_getElem? ht)).2.2 n hTb).2.1 (List.mem_of_getElem? hb)
  have selt : ∀ (t : Nat) (T : Tk) (n : Nat), G.tk[t]? = some T → T.blk = some n → t ∉ tl → n ∉ (G.sel bl tl).own := by
    intro t T n hT hTb hnt hm
    rcases List.mem_append.1 hm with q | q
    · obtain ⟨c, hc, hcn⟩ := mem_sel q
      exact ((h0.tok T (List.mem_of_getElem? hT)).2.2 n hTb).2.1 (List.mem_of_getElem? hcn)
    · obtain ⟨U, hU, hUb⟩ := mem_blks.1 q
      obtain ⟨u, hu, hue⟩ := mem_sel hU
      have := tk_inj h0.tokd hT hue hTb hUb
      subst this; exact hnt hu
  have keepr : ∀ (b n : Nat), G.r[b]? = some n → b ∉ bl → w'.heap[n]? = w.heap[n]? := fun b n hb hnb => h1.keeps.block n (h0.lt n (List.mem_of_getElem? hb)) (selr b n hb hnb)
  have keept : ∀ (t : Nat) (T : Tk) (n : Nat), G.tk[t]? = some T → T.blk = some n → t ∉ tl → w'.heap[n]? = w.heap[n]? := fun t T n hT hTb hnt => h1.keeps.block n ((h0.tok T (List.mem_of_getElem? hT)).lt hTb) (selt t T n hT hTb hnt)
  have Iold : ∀ (b o : Nat), g1.I b o → b < w.heap.size → b ∉ (G.sel bl tl).own → G.I b o := fun b o ho hlt hn => by
    rcases h1.i1 b o ho with q | q | q
    · exact q
    · omega
    · exact absurd (List.mem_append.2 (.inr q)) hn
  have newr1 : ∀ (i n : Nat), bl.length ≤ i → g1.r[i]? = some n → w.heap.size ≤ n := fun i n hi hn => by
    rcases h1.newr n (List.mem_of_getElem? hn) with q | q
    · exfalso
      obtain ⟨j, hj⟩ := List.mem_iff_getElem?.1 q
      have e := nodup_inj c0.nodup hn (h1.evo.ref j n hj)
      have := lt_of_get hj
      have e2 : (G.sel bl tl).r.length = bl.length := r1
      omega
    · exact q
  -- every growing slice behind the call
  have tkAll : ∀ (t : Nat) (T : Tk), (G.back bl tl g1).tk[t]? = some T → (t ∉ tl ∧ G.tk[t]? = some T) ∨ (∃ i : Nat, tl[i]? = some t ∧ g1.tk[i]? = some T) ∨ ∃ i : Nat, tl.length ≤ i ∧ t = hp.tk.length + (i - tl.length) ∧ g1.tk[i]? = some T := by
    intro t T hT
    have hT' : (putAt tl (g1.tk.take tl.length) G.tk ++ g1.tk.drop tl.length)[t]? = some T := hT
    by_cases hlt : t < G.tk.length
    · by_cases ht : t ∈ tl
      · obtain ⟨i, hi⟩ := List.mem_iff_getElem?.1 ht
        obtain ⟨T0, T1, _, _, q3, _⟩ := htlG i t hi
        have := tIn i t T1 hi q3
        rw [hT] at this; cases this
        exact .inr (.inl ⟨i, hi, q3⟩)
      · rw [List.getElem?_append_left (by rw [putAt_length]; exact hlt), putAt_out _ _ _ _ ht] at hT'
        exact .inl ⟨ht, hT'⟩
    · rw [List.getElem?_append_right (by rw [putAt_length]; omega), putAt_length, List.getElem?_drop] at hT'
      exact .inr (.inr ⟨_, Nat.le_add_right _ _, by rw [h0.lent]; omega, hT'⟩)
  have rAll : ∀ (b n : Nat), (G.back bl tl g1).r[b]? = some n → G.r[b]? = some n ∨ ∃ i : Nat, bl.length ≤ i ∧ b = hp.H.length + (i - bl.length) ∧ g1.r[i]? = some n := by
    intro b n hb
    have hb' : (G.r ++ g1.r.drop bl.length)[b]? = some n := hb
    by_cases hlt : b < G.r.length
    · rw [List.getElem?_append_left hlt] at hb'; exact .inl hb'
    · rw [List.getElem?_append_right (by omega), List.getElem?_drop] at hb'
      exact .inr ⟨_, Nat.le_add_right _ _, by rw [h0.len]; omega, hb'⟩
  -- what stands where
  have Hin : ∀ (i b : Nat) (C : Blk), bl[i]? = some b → hp1.H[i]? = some C → (hp.back bl tl hp1).H[b]? = some (C.rn (bakF bl hp.H.length) (bakF tl hp.tk.length)) := fun i b C hb hC => by
    have hl := hs.bl_ b (List.mem_of_getElem? hb)
    simp only [Hp.back]
    rw [List.getElem?_append_left (by rw [putAt_length]; exact hl)]
    refine putAt_in _ _ _ i b _ hs.bn hb ?_ hl
    rw [Blk.rnL_eq, List.getElem?_map, List.getElem?_take, if_pos (lt_of_get hb), hC]; rfl
  have Hout : ∀ (b : Nat), b < hp.H.length → b ∉ bl → (hp.back bl tl hp1).H[b]? = hp.H[b]? := fun b hl hb => by
    simp only [Hp.back]
    rw [List.getElem?_append_left (by rw [putAt_length]; exact hl), putAt_out _ _ _ _ hb]
  have Hnew : ∀ (i : Nat) (C : Blk), bl.length ≤ i → hp1.H[i]? = some C → (hp.back bl tl hp1).H[hp.H.length + (i - bl.length)]? = some (C.rn (bakF bl hp.H.length) (bakF tl hp.tk.length)) := fun i C hi hC => by
    simp only [Hp.back]
    rw [List.getElem?_append_right (by rw [putAt_length]; omega), putAt_length, Blk.rnL_eq, List.getElem?_map, List.getElem?_drop]
    rw [show bl.length + (hp.H.length + (i - bl.length) - hp.H.length) = i by omega, hC]; rfl
  have Tin : ∀ (i t : Nat) (V : Tv), tl[i]? = some t → hp1.tk[i]? = some V → (hp.back bl tl hp1).tk[t]? = some (V.rn (bakF bl hp.H.length) (bakF tl hp.tk.length)) := fun i t V ht hV => by
    have hl := hs.tl_ t (List.mem_of_getElem? ht)
    simp only [Hp.back]
    rw [List.getElem?_append_left (by rw [putAt_length]; exact hl)]
    refine putAt_in _ _ _ i t _ hs.tn ht ?_ hl
    rw [Tv.rnL_eq, List.getElem?_map, List.getElem?_take, if_pos (lt_of_get ht), hV]; rfl
  have Tout : ∀ (t : Nat), t < hp.tk.length → t ∉ tl → (hp.back bl tl hp1).tk[t]? = hp.tk[t]? := fun t hl ht => by
    simp only [Hp.back]
    rw [List.getElem?_append_left (by rw [putAt_length]; exact hl), putAt_out _ _ _ _ ht]
  have Tnew : ∀ (i : Nat) (V : Tv), tl.length ≤ i → hp1.tk[i]? = some V → (hp.back bl tl hp1).tk[hp.tk.length + (i - tl.length)]? = some (V.rn (bakF bl hp.H.length) (bakF tl hp.tk.length)) := fun i V hi hV => by
    simp only [Hp.back]
    rw [List.getElem?_append_right (by rw [putAt_length]; omega), putAt_length, Tv.rnL_eq, List.getElem?_map, List.getElem?_drop]
    rw [show tl.length + (hp.tk.length + (i - tl.length) - hp.tk.length) = i by omega, hV]; rfl
  have tkOkAll : ∀ T ∈ (G.back bl tl g1).tk, TkOk w' (G.back bl tl g1) T := by
    intro T hT
    obtain ⟨t, ht⟩ := List.mem_iff_getElem?.1 hT
    rcases tkAll t T ht with ⟨q1, q2⟩ | q
    · refine (h0.tok T (List.mem_of_getElem? q2)).keep (fun b hb => keept t T b q2 hb q1) fun b hb hn hm => ?_
      obtain ⟨c, hc⟩ := List.mem_iff_getElem?.1 hm
      rcases rAll c b hc with p | ⟨i, p1, _, p3⟩
      · exact hn (List.mem_of_getElem? p)
      · have := newr1 i b p1 p3
        have := (h0.tok T (List.mem_of_getElem? q2)).lt hb
        omega
    · obtain ⟨i, hi⟩ : ∃ i : Nat, g1.tk[i]? = some T := by
        rcases q with ⟨i, _, hi⟩ | ⟨i, _, _, hi⟩ <;> exact ⟨i, hi⟩
      have hT1 := List.mem_of_getElem? hi
      refine (c0.tok T hT1).keep (fun _ _ => rfl) fun b hb hn hm => ?_
      obtain ⟨c, hc⟩ := List.mem_iff_getElem?.1 hm
      rcases rAll c b hc with p | ⟨j, _, _, p3⟩
      · -- an old block: it was shown, or it is none of the growing slices'
        by_cases hcb : c ∈ bl
        · obtain ⟨j, hj⟩ := List.mem_iff_getElem?.1 hcb
          obtain ⟨m, e1, _, e3⟩ := hblG j c hj
          rw [p] at e1; cases e1
          exact hn (List.mem_of_getElem? e3)
        · have hns := selr c b p hcb
          rcases h1.newt b (mem_blks.2 ⟨T, hT1, hb⟩) with e | e
          · exact hns (List.mem_append.2 (.inr e))
          · have := h0.lt b (List.mem_of_getElem? p); omega
      · exact hn (List.mem_of_getElem? p3)
  have hh : HeapRel w' (G.back bl tl g1) (hp.back bl tl hp1) := by
    refine ⟨?_, fun b C n hC hn => ?_, fun n hn => ?_, ?_, ?_, fun t V T hV hT => ?_, tkOkAll, ?_, fun b o ho => ?_⟩
    · simp only [Hp.back, Gh.back, List.length_append, putAt_length, Blk.rnL_eq, List.length_map, List.length_drop, h0.len, c0.len]
    · rcases rAll b n hn with q | ⟨i, q1, q2, q3⟩
      · have hl : b < hp.H.length := by rw [h0.len]; exact lt_of_get q
        by_cases hb : b ∈ bl
        · obtain ⟨i, hi⟩ := List.mem_iff_getElem?.1 hb
          obtain ⟨m, e1, _, e3⟩ := hblG i b hi
          rw [q] at e1; cases e1
          obtain ⟨C', hC'⟩ : ∃ C', hp1.H[i]? = some C' := ⟨_, List.getElem?_eq_getElem (by rw [c0.len]; exact lt_of_get e3)⟩
          rw [Hin i b C' hi hC'] at hC; cases hC
          exact (c0.blk i C' n hC' e3).rn hren
        · rw [Hout b hl hb] at hC
          rw [keepr b n q hb]
          exact (h0.blk b C n hC q).evo hevo
      · obtain ⟨C', hC'⟩ : ∃ C', hp1.H[i]? = some C' := ⟨_, List.getElem?_eq_getElem (by rw [c0.len]; exact lt_of_get q3)⟩
        subst q2
        rw [Hnew i C' q1 hC'] at hC; cases hC
        exact (c0.blk i C' n hC' q3).rn hren
    · obtain ⟨b, hb⟩ := List.mem_iff_getElem?.1 hn
      rcases rAll b n hb with q | ⟨i, _, _, q3⟩
      · exact Nat.lt_of_lt_of_le (h0.lt n (List.mem_of_getElem? q)) h1.keeps.size
      · exact c0.lt n (List.mem_of_getElem? q3)
    · show (G.r ++ g1.r.drop bl.length).Nodup
      rw [List.nodup_append]
      refine ⟨h0.nodup, c0.nodup.sublist (List.drop_sublist _ _), fun a ha b hb e => ?_⟩
      subst e
      obtain ⟨i, hi⟩ := List.mem_iff_getElem?.1 hb
      have := newr1 _ a (Nat.le_add_right _ _) (drop_get hi)
      have := h0.lt a ha
      omega
    · simp only [Hp.back, Gh.back, List.length_append, putAt_length, Tv.rnL_eq, List.length_map, List.length_drop, h0.lent, c0.lent]
    · rcases tkAll t T hT with ⟨q1, q2⟩ | ⟨i, q1, q2⟩ | ⟨i, q1, q2, q3⟩
      · rw [Tout t (by rw [h0.lent]; exact lt_of_get q2) q1] at hV
        refine (h0.tv t V T hV q2).evo hevo (fun b hb o ho => Iold b o ho ((h0.tok T (List.mem_of_getElem? q2)).lt hb) (selt t T b q2 hb q1)) fun b hb => keept t T b q2 hb q1
      · obtain ⟨V', hV'⟩ : ∃ V', hp1.tk[i]? = some V' := ⟨_, List.getElem?_eq_getElem (by rw [c0.lent]; exact lt_of_get q2)⟩
        rw [Tin i t V' q1 hV'] at hV; cases hV
        exact (c0.tv i V' T hV' q2).rn hren
      · obtain ⟨V', hV'⟩ : ∃ V', hp1.tk[i]? = some V' := ⟨_, List.getElem?_eq_getElem (by rw [c0.lent]; exact lt_of_get q3)⟩
        subst q2
        rw [Tnew i V' q1 hV'] at hV; cases hV
        exact (c0.tv i V' T hV' q3).rn hren
    · refine nodup_blks fun i j T U n hi hj hTb hUb => ?_
      have cross : ∀ (t : Nat) (T : Tk) (n : Nat), t ∉ tl → G.tk[t]? = some T → T.blk = some n → n ∉ blks g1.tk := by
        intro t T n ht hT hTb hm
        rcases h1.newt n hm with e | e
        · exact selt t T n hT hTb ht (List.mem_append.2 (.inr e))
        · have := (h0.tok T (List.mem_of_getElem? hT)).lt hTb; omega
      rcases tkAll i T hi with ⟨q1, q2⟩ | q <;> rcases tkAll j U hj with ⟨p1, p2⟩ | p
      · exact tk_inj h0.tokd q2 p2 hTb hUb
      · obtain ⟨k, hk⟩ : ∃ k : Nat, g1.tk[k]? = some U := by rcases p with ⟨k, _, hk⟩ | ⟨k, _, _, hk⟩ <;> exact ⟨k, hk⟩
        exact absurd (mem_blks.2 ⟨U, List.mem_of_getElem? hk, hUb⟩) (cross i T n q1 q2 hTb)
      · obtain ⟨k, hk⟩ : ∃ k : Nat, g1.tk[k]? = some T := by rcases q with ⟨k, _, hk⟩ | ⟨k, _, _, hk⟩ <;> exact ⟨k, hk⟩
        exact absurd (mem_blks.2 ⟨T, List.mem_of_getElem? hk, hTb⟩) (cross j U n p1 p2 hUb)
      · rcases q with ⟨k, hk1, hk2⟩ | ⟨k, hk1, hk3, hk2⟩ <;> rcases p with ⟨m, hm1, hm2⟩ | ⟨m, hm1, hm3, hm2⟩
        · have := tk_inj c0.tokd hk2 hm2 hTb hUb
          subst this; rw [hk1] at hm1; cases hm1; rfl
        · have := tk_inj c0.tokd hk2 hm2 hTb hUb
          have := lt_of_get hk1; omega
        · have := tk_inj c0.tokd hk2 hm2 hTb hUb
          have := lt_of_get hm1; omega
        · have := tk_inj c0.tokd hk2 hm2 hTb hUb
          subst this; rw [hk3, hm3]
    · refine ⟨(c0.imm b o ho).1, fun i hi => ?_⟩
      rcases rAll i b hi with q | ⟨j, q1, q2, q3⟩
      · have hl : i < hp.H.length := by rw [h0.len]; exact lt_of_get q
        by_cases hb : i ∈ bl
        · obtain ⟨j, hj⟩ := List.mem_iff_getElem?.1 hb
          obtain ⟨m, e1, _, e3⟩ := hblG j i hj
          rw [q] at e1; cases e1
          exact Hin j i .gone hj ((c0.imm b o ho).2 j e3)
        · rw [Hout i hl hb]
          exact (h0.imm b o (Iold b o ho (h0.lt b (List.mem_of_getElem? q)) (selr i b q hb))).2 i q
      · subst q2
        exact Hnew j .gone q1 ((c0.imm b o ho).2 j q3)
  refine ⟨h.step hh hevo ⟨h1.keeps.os, h1.keeps.tape, h1.keeps.output, h1.keeps.size, fun b hb hn => h1.keeps.block b hb fun hm => hn (own_sel hm)⟩ (fun n hn => ?_) (fun n hn => ?_) (fun b o ho => ?_), hevo, hren⟩
  · obtain ⟨b, hb⟩ := List.mem_iff_getElem?.1 hn
    rcases rAll b n hb with q | ⟨i, q1, _, q3⟩
    · exact .inl (List.mem_of_getElem? q)
    · exact .inr (newr1 i n q1 q3)
  · obtain ⟨T, hT, hTb⟩ := mem_blks.1 hn
    obtain ⟨t, ht⟩ := List.mem_iff_getElem?.1 hT
    have sub : n ∈ blks (G.sel bl tl).tk → n ∈ blks G.tk := fun hm => by
      obtain ⟨U, hU, hUb⟩ := mem_blks.1 hm
      obtain ⟨u, _, hu⟩ := mem_sel hU
      exact mem_blks.2 ⟨U, List.mem_of_getElem? hu, hUb⟩
    rcases tkAll t T ht with ⟨_, q2⟩ | q
    · exact .inl (mem_blks.2 ⟨T, List.mem_of_getElem? q2, hTb⟩)
    · obtain ⟨k, hk⟩ : ∃ k : Nat, g1.tk[k]? = some T := by rcases q with ⟨k, _, hk⟩ | ⟨k, _, _, hk⟩ <;> exact ⟨k, hk⟩
      exact (h1.newt n (mem_blks.2 ⟨T, List.mem_of_getElem? hk, hTb⟩)).imp sub id
  · rcases h1.i1 b o ho with q | q | q
    · exact .inl q
    · exact .inr (.inl q)
    · obtain ⟨U, hU, hUb⟩ := mem_blks.1 q
      obtain ⟨u, _, hu⟩ := mem_sel hU
      exact .inr (.inr (mem_blks.2 ⟨U, List.mem_of_getElem? hu, hUb⟩))

/-- A CALL. -/
theorem call_eff {M : Mod} {f : FuncId} {first cap args : List D} {K : D → Hp → Prop} {ds : List D} {hp0 : Hp} {R : D → Hp → Prop} (bl tl : List Nat) (h : Eff M f ds hp0 R) (hs : SelOk hp bl tl)
    (hd : D.rnL (posF bl) (posF tl) (first ++ args ++ cap) = ds) (hh : hp.sel bl tl = hp0)
    (hk : ∀ d hp1, R d hp1 → K (d.rn (bakF bl hp.H.length) (bakF tl hp.tk.length)) (hp.back bl tl hp1)) : CallOp M (.fn (.func f) first cap :: args) hp K := by
  intro w0 B w G vs hA hi hr
  obtain ⟨fv, av, rfl, h1, h2⟩ := hr.inv
  simp only [Rel] at h1
  obtain ⟨xs, ys, rfl, h3, h4⟩ := h1
  refine ⟨f, xs.toArray, ys.toArray, av, rfl, h.1, ?_⟩
  have hall := RelL.rn _ (Ren.sel hi.heap hs) ((h3.append h2).append h4)
  have hhs := hi.heap.sel hs
  rw [hd] at hall
  rw [hh] at hhs
  have hamb : M.amb w (G.sel bl tl).own := M.up _ _ _ _ hA hi.keeps fun n hn => hi.new n (own_sel hn)
  have hcall := h.2 w (G.sel bl tl) (xs ++ av ++ ys) hamb hhs hall
  have e : (xs.toArray ++ av.toArray ++ ys.toArray) = (xs ++ av ++ ys).toArray := by simp
  rw [e]
  refine Calls.mono hcall fun e w' hp' => ?_
  obtain ⟨v, d, hp1, g1, rfl, hR, g3, g4⟩ := hp'
  obtain ⟨q1, q2, q3⟩ := hi.back hs g3
  exact ⟨v, _, _, _, rfl, hk d hp1 hR, q1, q2, Rel.rn _ q3 g4⟩

/-- A CALL OF A FUNCTION THAT COMPUTES. -/
theorem call_pur {M : Mod} {f : FuncId} {first cap args : List D} {K : D → Hp → Prop} {d : D} (hc : D.closedL (first ++ args ++ cap) = true) (h : Pur M f (D.erL (first ++ args ++ cap)) d) (hk : K d hp) :
    CallOp M (.fn (.func f) first cap :: args) hp K := by
  intro w0 B w G vs hA hi hr
  obtain ⟨fv, av, rfl, h1, h2⟩ := hr.inv
  simp only [Rel] at h1
  obtain ⟨xs, ys, rfl, h3, h4⟩ := h1
  refine ⟨f, xs.toArray, ys.toArray, av, rfl, h.1, ?_⟩
  have hs : SelOk hp [] [] := ⟨by simp, by simp, by simp, by simp⟩
  have hall := RelL.closed _ hc ((h3.append h2).append h4)
  have hhs := hi.heap.sel hs
  have e0 : G.sel [] [] = G.cl := rfl
  have e1 : hp.sel [] [] = ⟨[], []⟩ := rfl
  rw [e0, e1] at hhs
  have hcall := h.2 w G.cl (xs ++ av ++ ys) (M.up _ _ _ _ hA hi.keeps fun n hn => by simp [Gh.own, Gh.cl, blks] at hn) hhs hall
  have e : (xs.toArray ++ av.toArray ++ ys.toArray) = (xs ++ av ++ ys).toArray := by simp
  rw [e]
  refine Calls.mono hcall fun e w' hp' => ?_
  obtain ⟨v, d', hp1, g1, rfl, ⟨rfl, rfl⟩, g3, g4⟩ := hp'
  rw [← e0] at g3
  obtain ⟨q1, q2, q3⟩ := hi.back hs g3
  have e2 : hp.back [] [] ⟨[], []⟩ = hp := by
    obtain ⟨H, tk⟩ := hp
    simp [Hp.back, putAt, Blk.rnL, Tv.rnL]
  rw [e2] at q1
  refine ⟨v, d', hp, _, rfl, hk, q1, q2, ?_⟩
  have hg1 : g1 = (G.back [] [] g1).cl := by
    have a1 := g3.heap.len
    have a2 := g3.heap.lent
    obtain ⟨r, tk, I⟩ := g1
    have b1 : r = [] := List.eq_nil_of_length_eq_zero a1.symm
    have b2 : tk = [] := List.eq_nil_of_length_eq_zero a2.symm
    subst b1; subst b2; rfl
  have this : Rel w' (G.back [] [] g1).cl d' v := hg1 ▸ g4
  exact this.any
end
end GoV
