/- The engine, part o: functions that compute: from the body to the contract, and the contract at a call. Own work; no program in sight. -/
import Derived.Test.YtapoplenfgjcjaaDoorEm
set_option linter.unusedSimpArgs false
namespace GoV
open Go

/-- How a result is read. -/
inductive RR where
  | slot (o : Opd)
  | cell (o : Opd) (ag : Bool) (n : Nat)

def resR (C : Cfg) : ResultVar → Option RR
  | .tmp t => (resO C (.tmp t)).map .slot
  | .cell t ty =>
    match resO C (.tmp t), szOf C.P ty, C.P.underlying ty with
    | some o, some n, some d => some (.cell o (isRowT d) (if isRowT d then n else 1))
    | _, _, _ => none

def resRs (C : Cfg) : List ResultVar → Option (List RR)
  | [] => some []
  | x :: xs => match resR C x, resRs C xs with
    | some y, some ys => some (y :: ys)
    | _, _ => none

def rrWp (r : RR) (s : St) (K : D → Prop) : Prop :=
  match r with
  | .slot o => K (s.get o)
  | .cell o ag n =>
    match s.get o with
    | .ptr b off => ∃ cs, s.hp.H[b]? = some (.cells cs) ∧ off + n ≤ cs.length ∧ K (if ag then .agg ((cs.drop off).take n) else cs.getD off .undef)
    | _ => False

def rrsWp : List RR → St → (List D → Prop) → Prop
  | [], _, K => K []
  | r :: rs, s, K => rrWp r s fun d => rrsWp rs s fun ds => K (d :: ds)

def oneOrTup : List D → D
  | [d] => d
  | ds => .tup ds

def resV (tmps : Array Value) : ResultVar → Sem Value
  | .tmp t => pure (tmps.getD t Go.undef)
  | .cell t ty => do loadVar ty (← asAddr (tmps.getD t Go.undef))

theorem rr_run {C : Cfg} {w0 r0 I0 rn tk I} {s : St} {a : Act} {w : World} (hi : Inv w0 r0 I0 s.hp rn tk I w) (hs : ∀ t, Rel w I (s.slot C.pers t) (r0 ++ rn) tk (a.tmps.getD t Go.undef))
    {x : ResultVar} {r : RR} (hr : resR C x = some r) {K : D → Prop} (h : rrWp r s K) :
    ∃ d v, K d ∧ Rel w I d (r0 ++ rn) tk v ∧ (resV a.tmps x).run C.P w = .ok v w := by
  cases x with
  | tmp t =>
    simp only [resR] at hr
    cases ho : resO C (.tmp t) with
    | none => simp [ho] at hr
    | some o =>
      simp [ho] at hr; subst hr
      exact ⟨_, _, h, resO_rel hs ho, rfl⟩
  | cell t ty =>
    simp only [resR] at hr
    cases ho : resO C (.tmp t) with
    | none => simp [ho] at hr
    | some o =>
      cases hz : szOf C.P ty with
      | none => simp [ho, hz] at hr
      | some n =>
        cases hu : C.P.underlying ty with
        | none => simp [ho, hz, hu] at hr
        | some d =>
          simp [ho, hz, hu] at hr; subst hr
          have hv := resO_rel hs ho
          simp only [rrWp] at h
          split at h <;> first
            | exact h.elim
            | skip
          rename_i b off hb
          obtain ⟨cs, h1, h2, h⟩ := h
          rw [hb] at hv
          simp only [Rel] at hv
          obtain ⟨nb, hn, hx⟩ := hv
          have hx' : a.tmps.getD t Go.undef = .pointer (some ⟨nb, off, none⟩) := hx
          obtain ⟨xs, e, _, g2, g3, g4⟩ := blk_cells hi h1 hn
          have hlen := g2.length
          have conv : ∀ v, (Instr.loadAt ty (.pointer (some ⟨nb, off, none⟩))).run C.P w = .ok v w → (loadVar ty ⟨nb, off, none⟩).run C.P w = .ok v w := by
            intro v hv; simpa [Instr.loadAt, Instr.sureAddr] using hv
          cases hd : isRowT d <;> simp only [hd, if_true, if_false, Bool.false_eq_true] at h h2
          · have hlt : off < xs.length := by omega
            refine ⟨_, _, h, g2.getD (List.getElem?_eq_getElem hlt), ?_⟩
            simp [resV, hx', asAddr, conv _ (run_loadAt_one (P := C.P) hu hd xs[off] nb off (g4 off _ (List.getElem?_eq_getElem hlt)))]
          · refine ⟨_, .agg ((xs.drop off).take n).toArray, h, ?_, ?_⟩
            · simp only [Rel]
              exact ⟨_, rfl, (g2.drop off).take n, fun y hy => g3 y (List.mem_of_mem_drop (List.mem_of_mem_take hy))⟩
            · have hlen2 : ((xs.drop off).take n).length = n := by simp; omega
              have := conv _ (run_loadAt_row (P := C.P) (w := w) hu hd ((xs.drop off).take n) (by rw [hlen2]; exact hz) nb off (fun j y hj => by
                rw [List.getElem?_take] at hj
                split at hj
                · rw [List.getElem?_drop] at hj; exact g4 _ _ hj
                · cases hj))
              simp [resV, hx', asAddr, this]

theorem rrs_run {C : Cfg} {w0 r0 I0 rn tk I} {s : St} {a : Act} {w : World} (hi : Inv w0 r0 I0 s.hp rn tk I w) (hs : ∀ t, Rel w I (s.slot C.pers t) (r0 ++ rn) tk (a.tmps.getD t Go.undef)) :
    ∀ {xs : List ResultVar} {rs : List RR} {K : List D → Prop}, resRs C xs = some rs → rrsWp rs s K →
    ∃ ds vs, K ds ∧ RelL w I ds (r0 ++ rn) tk vs ∧ (xs.mapM (resV a.tmps)).run C.P w = .ok vs w
  | [], rs, K, hr, h => by
    simp [resRs] at hr; subst hr
    exact ⟨[], [], h, RelL.nil, by simp⟩
  | x :: xs, rs, K, hr, h => by
    simp only [resRs] at hr
    cases h1 : resR C x with
    | none => simp [h1] at hr
    | some r =>
      cases h2 : resRs C xs with
      | none => simp [h1, h2] at hr
      | some rs' =>
        simp [h1, h2] at hr; subst hr
        obtain ⟨d, v, k1, k2, k3⟩ := rr_run (a := a) hi hs h1 h
        obtain ⟨ds, vs, k4, k5, k6⟩ := rrs_run (a := a) hi hs h2 k1
        refine ⟨d :: ds, v :: vs, k4, RelL.cons k2 k5, ?_⟩
        rw [List.mapM_cons, Sem.run_bind]
        simp only [k3, Result.andThen_ok, Sem.run_bind, k6, Sem.run_pure]

theorem results_run {C : Cfg} {fn : Func} {w0 r0 I0 rn tk I} {s : St} {a : Act} {w : World} (hi : Inv w0 r0 I0 s.hp rn tk I w) (hs : ∀ t, Rel w I (s.slot C.pers t) (r0 ++ rn) tk (a.tmps.getD t Go.undef))
    {rs : List RR} {K : List D → Prop} (hr : resRs C fn.results.toList = some rs) (h : rrsWp rs s K) :
    ∃ ds v, K ds ∧ Rel w I (oneOrTup ds) (r0 ++ rn) tk v ∧ (results fn a.tmps).run C.P w = .ok v w := by
  obtain ⟨ds, vs, h1, h2, h3⟩ := rrs_run (a := a) hi hs hr h
  have hrun : (fn.results.mapM (resV a.tmps)).run C.P w = .ok vs.toArray w := by
    rw [← Array.toArray_toList (xs := fn.results), List.mapM_toArray, Sem.run_map, h3]
    rfl
  refine ⟨ds, if h : vs.toArray.size = 1 then vs.toArray[0] else .tuple vs.toArray, h1, ?_, ?_⟩
  · match ds, vs, h2 with
    | [], vs, h2 => rw [h2.inv_nil]; simpa [oneOrTup, Rel] using RelL.nil
    | [d], vs, h2 =>
      obtain ⟨y, ys, rfl, g1, g2⟩ := h2.inv
      rw [g2.inv_nil]; simpa [oneOrTup] using g1
    | d :: e :: l, vs, h2 =>
      have hl := h2.length
      have : vs.toArray.size ≠ 1 := by simp at hl ⊢; omega
      rw [dif_neg this]
      simp only [oneOrTup, Rel]
      exact ⟨vs, rfl, h2⟩
  · change ((fn.results.mapM (resV a.tmps)) >>= fun vs => (pure (if h : vs.size = 1 then vs[0] else .tuple vs) : Sem Value)).run C.P w = _
    rw [Sem.run_bind, hrun]
    rfl

/-- Where a function begins. -/
def St.init (C : Cfg) (args : List D) : St := { env := args ++ List.replicate (C.pers.length - args.length) .undef, scr := [], hp := ⟨[], []⟩ }

/-- THE CONTRACT FROM THE BODY, of a function that computes. -/
theorem pur_of_body {C : Cfg} {f : FuncId} {fn : Func} {c : Code} {rc : RC} {rs : List RR} (hf : C.P.funcs[f]? = some fn) (hb : fn.body = some c) (hnt : fn.ntmps = C.nt) (hrc : resCode C c = some rc) (hrs : resRs C fn.results.toList = some rs)
    {args : List D} {d : D} (hname : (fn.name == "runtime.NumGoroutine") = false) (hpl : C.pers.take args.length = List.range args.length) (hlt : args.length ≤ C.nt)
    (h : SWp C rc (fun e s => (match e with | .exit _ => False | _ => True) ∧ rrsWp rs s fun ds => D.closed (oneOrTup ds) = true ∧ (oneOrTup ds).er = d) (St.init C args)) :
    Pur C.M f args d := by
  refine ⟨⟨fn, hf, by simp [hb], hname⟩, fun w I r xs hA hH hargs => ?_⟩
  have hr0 : r = [] := List.eq_nil_of_length_eq_zero hH.len.symm
  subst hr0
  have hal : args.length ≤ C.pers.length := by
    have := congrArg List.length hpl
    simp at this; omega
  have hxl := hargs.length
  refine calls_of_wp hf hb ?_
  have hinv : Inv w [] I ⟨[], []⟩ [] [] I w := by
    refine ⟨?_, rfl, by simp, by simp, by simp, Keeps.refl w [], by simp, fun _ _ h => h, fun _ _ h => .inl h⟩
    simpa using hH
  have hsim : Sim C w [] I (St.init C args) { tmps := xs.toArray ++ Array.replicate (fn.ntmps - xs.toArray.size) Go.undef, defers := [] } w := by
    refine ⟨[], [], I, hinv, by simp; omega, rfl, by simp [St.init]; omega, fun t => ?_⟩
    simp only [List.append_nil]
    unfold St.slot St.init
    split
    · rename_i i hi
      have hti := idx_some hi
      by_cases hlt2 : i < args.length
      · have ht : t = i := by
          have h1 : (C.pers.take args.length)[i]? = some t := by rw [List.getElem?_take, if_pos hlt2]; exact hti
          rw [hpl] at h1
          simp [List.getElem?_range, hlt2] at h1
          exact h1.symm
        subst ht
        obtain ⟨x, hx1, hx2⟩ := hargs.get (List.getElem?_eq_getElem hlt2)
        have e1 : (args ++ List.replicate (C.pers.length - args.length) D.undef).getD t .undef = args[t] := by
          simp [List.getD, List.getElem?_append_left hlt2, hlt2]
        have e2 : (xs.toArray ++ Array.replicate (fn.ntmps - xs.toArray.size) Go.undef).getD t Go.undef = x := by
          have hlx : t < xs.length := by omega
          rw [Array.getD_eq_getD_getElem?, Array.getElem?_append_left (by simpa using hlx)]
          simp [hx1]
        rw [e1, e2]; exact hx2
      · have e1 : (args ++ List.replicate (C.pers.length - args.length) D.undef).getD i .undef = .undef := by
          simp only [List.getD, List.getElem?_append_right (Nat.le_of_not_lt hlt2), List.getElem?_replicate]
          split <;> rfl
        rw [e1]; simp [Rel]
    · simp [lk, Rel]
  refine wp_mono (h.run c hrc w [] I hA _ w hsim) fun e a' w' hl => ?_
  have fin : ∀ s, Sim C w [] I s a' w' → (rrsWp rs s fun ds => D.closed (oneOrTup ds) = true ∧ (oneOrTup ds).er = d) →
      a'.defers = [] ∧ ∃ v, (results fn a'.tmps).run C.P w' = .ok v w' ∧ Post w I [] (fun d' H' => d' = d ∧ H' = []) (.returned v) w' := by
    intro s hs hrr
    obtain ⟨rn, tk, I', g0, g1, g2, g3, g4⟩ := hs
    obtain ⟨ds, v, ⟨k1, k2⟩, k4, k5⟩ := results_run (a := a') (fn := fn) g0 g4 hrs hrr
    refine ⟨g2, v, k5, v, d, [], [], I', rfl, ⟨rfl, rfl⟩, ?_, ⟨rfl, by simp, by simp, by simp, fun b o hb => ⟨(g0.heap.imm b o hb).1, by simp⟩⟩, g0.keeps, by simp, g0.i0, g0.i1⟩
    rw [← k2]
    exact (Rel.closed _ k1 (Rel.er _ k4)).any
  cases e <;> simp only [Lift, bodyPost] at hl ⊢
  · obtain ⟨s, h1, _, h2⟩ := hl; exact fin s h1 h2
  · obtain ⟨s, h1, h3, h2⟩ := hl; exact h3.elim
  · obtain ⟨s, h1, _, h2⟩ := hl; exact fin s h1 h2

/-- A CALL OF A FUNCTION THAT COMPUTES. -/
theorem call_pur {M : Mod} {f : FuncId} {first cap args : List D} {hp : Hp} {K : D → Hp → Prop} {d : D} (hc : D.closedL (first ++ args ++ cap) = true) (h : Pur M f (D.erL (first ++ args ++ cap)) d) (hk : K d hp) :
    CallOp M (.fn (.func f) first cap :: args) hp K := by
  intro w0 r0 I0 rn tk I w vs hA hi hr
  obtain ⟨fv, av, rfl, h1, h2⟩ := hr.inv
  simp only [Rel] at h1
  obtain ⟨xs, ys, rfl, h3, h4⟩ := h1
  refine ⟨f, xs.toArray, ys.toArray, av, rfl, h.1, ?_⟩
  have hall := RelL.closed _ hc (RelL.er _ ((h3.append h2).append h4))
  have hcall := h.2 w I [] (xs ++ av ++ ys) (M.up _ _ _ _ hA hi.keeps (by simp)) ⟨rfl, by simp, by simp, by simp, fun b o hb => ⟨(hi.heap.imm b o hb).1, by simp⟩⟩ hall
  have e : (xs.toArray ++ av.toArray ++ ys.toArray) = (xs ++ av ++ ys).toArray := by simp
  rw [e]
  refine Calls.mono hcall fun e w' hp => ?_
  obtain ⟨v, d', H', r', I', rfl, ⟨rfl, rfl⟩, g3, g4, g5, g6, g7, g8⟩ := hp
  have hr' : r' = [] := List.eq_nil_of_length_eq_zero (by simpa using g4.len.symm)
  subst hr'
  simp only [List.append_nil] at g3 g4
  have hb : ∀ b, b < w.heap.size → w'.heap[b]? = w.heap[b]? := fun b hb => g5.block b hb (by simp)
  have hevo : Evo w I (r0 ++ rn) tk w' I' (r0 ++ rn) tk :=
    ⟨fun b o hbo => ⟨g7 b o hbo, cell_of_heap (hb b (hi.heap.imm b o hbo).1)⟩, fun _ _ h => h, fun _ T h => ⟨T, h, rfl, .inl rfl⟩⟩
  refine ⟨v, d', hp, rn, tk, I', rfl, hk, ⟨⟨hi.heap.len, fun b B n hB hn => ?_, fun n hn => Nat.lt_of_lt_of_le (hi.heap.lt n hn) g5.size, hi.heap.nodup, fun b o hbo => ⟨(g4.imm b o hbo).1, ?_⟩⟩, hi.toks, fun T hT => ?_, hi.tokd, fun b o hbo T hT e => ?_,
    hi.keeps.trans ⟨g5.os, g5.tape, g5.output, g5.size, fun b hb' _ => hb b hb'⟩, hi.new, fun b o hbo => g7 b o (hi.i0 b o hbo), fun b o hbo => ?_⟩, hevo, g3.any⟩
  · rw [hb n (hi.heap.lt n (List.mem_of_getElem? hn))]
    exact (hi.heap.blk b B n hB hn).evo hevo
  · intro hm
    rcases g8 b o hbo with q | q
    · exact (hi.heap.imm b o q).2 hm
    · have := hi.heap.lt b hm; omega
  · obtain ⟨zs, e, q1, q2⟩ := hi.tok T hT
    refine ⟨zs, e, ?_, q2⟩
    have hl : T.blk < w.heap.size := by
      rcases Nat.lt_or_ge T.blk w.heap.size with g | g
      · exact g
      · rw [Array.getElem?_eq_none g] at q1; cases q1
    rw [hb _ hl]; exact q1
  · rcases g8 b o hbo with q | q
    · exact hi.tki b o q T hT e
    · obtain ⟨zs, e', q1, _⟩ := hi.tok T hT
      rw [e, Array.getElem?_eq_none q] at q1; cases q1
  · rcases g8 b o hbo with q | q
    · exact hi.i1 b o q
    · exact .inr (Nat.le_trans hi.keeps.size q)
end GoV
