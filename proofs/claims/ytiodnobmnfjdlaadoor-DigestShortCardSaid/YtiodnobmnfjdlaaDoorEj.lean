/- The engine, part j: every operation that does not call is sound. Own work; no program in sight. -/
import Derived.Test.YtiodnobmnfjdlaaDoorEy
set_option linter.unusedSimpArgs false
namespace GoV
open Go

section
variable {P : Program} {ρ : Operand → Value} {o : Oper} {w0 : World} {g0 : Gh} {hp : Hp} {w : World} {g : Gh} {K : D → Hp → Prop}

theorem snd_lenA {c : Call} {x : Operand} {t e : TypeId} {n : Nat} (hop : o.op = .call c) (hc : c.callee = .builtin .len) (ht : c.argTypes[0]? = some t) (hx : c.args.toList = [x]) (hu : P.underlying t = some (.array n e))
    (hi : Inv w0 g0 hp w g) {ds : List D} (h : opWp (.lenA n) ds hp K) : Done P ρ o w0 g0 w g K := by
  obtain ⟨cs, hrun⟩ := run_builtin (ρ := ρ) (o := o) (P := P) (w := w) hop hc
  simp only [args1 hx, builtin, Builtin.len_, ht] at hrun
  simp only [opWp] at h
  refine done_int hi h ?_
  rw [hrun]
  simp [run_underlying hu, goInt]

theorem fold_run (f : Int → Int → Int) (gf : Value → Value → Sem Value) (hg : ∀ (k : IntKind) (a b : Int), gf (.int k a) (.int k b) = pure (.int k (f a b))) {k : IntKind} :
    ∀ (ds : List D) (vs : List Value) (n m : Int), foldI f k n ds = some m → RelL w g ds vs → ∀ w1 : World, (vs.foldlM gf (.int k n)).run P w1 = .ok (.int k m) w1
  | [], vs, n, m, h, hr, w1 => by
    rw [hr.inv_nil]
    simp [foldI] at h; subst h; rfl
  | d :: ds, vs, n, m, h, hr, w1 => by
    obtain ⟨v, vs', rfl, hv, hvs⟩ := hr.inv
    cases d <;> simp only [foldI] at h <;> first
      | (cases h; done)
      | skip
    rename_i k' j
    split at h
    · rename_i e; subst e
      simp only [Rel] at hv; subst hv
      rw [List.foldlM_cons, hg]
      simpa using fold_run f gf hg ds vs' (f n j) m h hvs w1
    · cases h

theorem snd_min {c : Call} (hop : o.op = .call c) (hc : c.callee = .builtin .min)
    (hi : Inv w0 g0 hp w g) {ds : List D} (hr : RelL w g ds (c.args.toList.map ρ)) (h : opWp .minI ds hp K) : Done P ρ o w0 g0 w g K := by
  obtain ⟨cs, hrun⟩ := run_builtin (ρ := ρ) (o := o) (P := P) (w := w) hop hc
  cases ds with
  | nil => simp only [opWp] at h
  | cons d ds =>
    cases d <;> simp only [opWp] at h
    rename_i k n
    obtain ⟨m, hm, h⟩ := h
    obtain ⟨v, vs, he, hv, hvs⟩ := hr.inv
    simp only [Rel] at hv; subst hv
    refine done_int hi h ?_
    rw [hrun]
    have hf := fold_run (P := P) (fun a b => if b < a then b else a) Builtin.min2 (fun _ _ _ => rfl) ds vs n m hm hvs w
    simp only [builtin, Builtin.min_, Array.toList_map, he, Sem.run_bind, hf, Result.andThen_ok, Sem.run_pure]

theorem snd_max {c : Call} (hop : o.op = .call c) (hc : c.callee = .builtin .max)
    (hi : Inv w0 g0 hp w g) {ds : List D} (hr : RelL w g ds (c.args.toList.map ρ)) (h : opWp .maxI ds hp K) : Done P ρ o w0 g0 w g K := by
  obtain ⟨cs, hrun⟩ := run_builtin (ρ := ρ) (o := o) (P := P) (w := w) hop hc
  cases ds with
  | nil => simp only [opWp] at h
  | cons d ds =>
    cases d <;> simp only [opWp] at h
    rename_i k n
    obtain ⟨m, hm, h⟩ := h
    obtain ⟨v, vs, he, hv, hvs⟩ := hr.inv
    simp only [Rel] at hv; subst hv
    refine done_int hi h ?_
    rw [hrun]
    have hf := fold_run (P := P) (fun a b => if b > a then b else a) Builtin.max2 (fun _ _ _ => rfl) ds vs n m hm hvs w
    simp only [builtin, Builtin.max_, Array.toList_map, he, Sem.run_bind, hf, Result.andThen_ok, Sem.run_pure]

theorem snd_cvS {s t : TypeId} {x : Operand} (hop : o.op = .convert s t x) (hs : P.underlying s = some .string) (ht : P.underlying t = some .string) (hi : Inv w0 g0 hp w g) {ds : List D} (hr : RelL w g ds [ρ x]) (h : opWp .cvS ds hp K) : Done P ρ o w0 g0 w g K := by
  obtain ⟨a, rfl, ha⟩ := list1 (f := ρ) hr
  cases a <;> try (simp only [opWp] at h; done)
  rename_i b
  simp only [opWp] at h
  refine done_val hi h ha ?_
  simp only [Rel] at ha
  simp [execOp, hop, ha, convert, run_underlying hs, run_underlying ht]

/-- EVERY OPERATION THAT DOES NOT CALL. -/
theorem opWp_sound {oc : OC} {xs : List Operand} (hres : resolveOp P o.op = some (oc, xs)) (hnc : isCall oc = false)
    (hi : Inv w0 g0 hp w g) {ds : List D} (hr : RelL w g ds (xs.map ρ)) (h : opWp oc ds hp K) : Done P ρ o w0 g0 w g K := by
  cases hop : o.op <;> simp only [hop, resolveOp] at hres <;> try (cases hres; done)
  case move x => simp at hres; obtain ⟨rfl, rfl⟩ := hres; exact snd_mv (.inl hop) hi hr h
  case assign x => simp at hres; obtain ⟨rfl, rfl⟩ := hres; exact snd_mv (.inr hop) hi hr h
  case nilCheck x => simp at hres; obtain ⟨rfl, rfl⟩ := hres; exact snd_nck hop hi hr h
  case pick c a b => simp at hres; obtain ⟨rfl, rfl⟩ := hres; exact snd_pick hop hi hr h
  case alloc t =>
    cases hz : zeroDs P t with
    | none => simp [hz] at hres
    | some z =>
      simp [hz] at hres; obtain ⟨rfl, rfl⟩ := hres
      have := hr.length
      cases ds with
      | nil =>
        split at h
        · exact snd_newT hop hz hi h
        · exact snd_newb hop hz hi h
      | cons d ds => simp at this
  case box t x => simp at hres; obtain ⟨rfl, rfl⟩ := hres; exact snd_box hop hi hr h
  case build t parts =>
    cases hz : zeroDs P t with
    | none => simp [hz] at hres
    | some z =>
      cases hu : P.underlying t with
      | none => simp [hz, hu] at hres
      | some d =>
        cases d <;> simp only [hz, hu] at hres <;> first
          | (cases hres; done)
          | skip
        case struct fs =>
          cases hp : places P fs.toList with
          | none => simp [hp] at hres
          | some ps =>
            cases hq : GoV.pick ps (parts.toList.map (·.1)) with
            | none => simp [hp, hq] at hres
            | some q =>
              simp [hp, hq] at hres; obtain ⟨rfl, rfl⟩ := hres
              exact snd_bld hop hz (.inl ⟨fs, ps, hu, hp, hq⟩) hi hr h
        case array n e =>
          cases hk : szOf P e with
          | none => simp [hk] at hres
          | some k =>
            simp [hk] at hres; obtain ⟨rfl, rfl⟩ := hres
            exact snd_bld hop hz (.inr ⟨n, e, k, hu, hk, rfl⟩) hi hr h
  case load t x =>
    cases hs : szOf P t with
    | none => simp [hs] at hres
    | some n =>
      cases hu : P.underlying t with
      | none => simp [hs, hu] at hres
      | some d =>
        simp only [hs, hu] at hres
        have h2 := snd_ld (ρ := ρ) (K := K) hop hs hu hi (ds := ds)
        cases hd : isRowT d <;> simp [hd] at hres h2 <;> obtain ⟨rfl, rfl⟩ := hres <;> exact h2 hr h
  case store t a v =>
    cases hs : szOf P t with
    | none => simp [hs] at hres
    | some n => simp [hs] at hres; obtain ⟨rfl, rfl⟩ := hres; exact snd_st hop hs hi hr h
  case binOp op t x y u =>
    simp only [resBin] at hres
    cases hu : P.underlying t with
    | none => simp [hu] at hres
    | some d =>
      cases d <;> simp only [hu] at hres <;> first
        | (cases hres; done)
        | skip
      case int k => simp at hres; obtain ⟨rfl, rfl⟩ := hres; exact snd_bin hop hi hr h
      case string => simp at hres; obtain ⟨rfl, rfl⟩ := hres; exact snd_bin hop hi hr h
      case bool =>
        cases op <;> simp at hres <;> obtain ⟨rfl, rfl⟩ := hres
        · exact snd_eqB (neg := false) (by simpa using hop) hu hi hr h
        · exact snd_eqB (neg := true) (by simpa using hop) hu hi hr h
      case struct fs =>
        split at hres
        case isFalse => cases hres
        rename_i hc
        cases hk : plainKinds P 0 fs.toList with
        | none => cases op <;> simp [hk] at hres
        | some ks =>
          cases op <;> simp [hk] at hres <;> obtain ⟨rfl, rfl⟩ := hres
          · exact snd_eqA (neg := false) (by simpa using hop) hu hc.1 hc.2 hk hi hr h
          · exact snd_eqA (neg := true) (by simpa using hop) hu hc.1 hc.2 hk hi hr h
  case unOp op t x => simp at hres; obtain ⟨rfl, rfl⟩ := hres; exact snd_un hop hi hr h
  case convert s t x =>
    unfold resCv at hres
    cases hs : P.underlying s with
    | none => simp [hs] at hres
    | some d =>
      cases ht : P.underlying t with
      | none => cases d <;> simp [hs, ht] at hres
      | some d2 =>
        cases d <;> cases d2 <;> simp [hs, ht] at hres
        case int.int => obtain ⟨rfl, rfl⟩ := hres; exact snd_cvI hop hs ht hi hr h
        case string.string =>
          obtain ⟨rfl, rfl⟩ := hres; exact snd_cvS hop hs ht hi hr h
        case slice.string e =>
          cases he : P.underlying e with
          | none => simp [he] at hres
          | some d =>
            cases d <;> simp [he] at hres
            rename_i k
            cases k <;> simp at hres
            obtain ⟨rfl, rfl⟩ := hres
            exact snd_b2s hop hs ht he hi hr h
  case buildSlice t len parts =>
    unfold resBsl at hres
    cases hu : P.underlying t with
    | none => simp [hu] at hres
    | some d =>
      cases d <;> simp [hu] at hres
      rename_i e
      cases hk : szOf P e with
      | none => simp [hk] at hres
      | some k =>
        cases hz : zeroDs P e with
        | none => simp [hk, hz] at hres
        | some z =>
          simp [hk, hz] at hres
          obtain ⟨oc', ⟨⟨h1, h2, h3⟩, rfl⟩, rfl, rfl⟩ := hres
          exact snd_bsl hop hu hk hz h2 h3 h1 hi hr h
  case makeSlice t l c =>
    unfold resMks at hres
    cases hu : P.underlying t with
    | none => simp [hu] at hres
    | some d =>
      cases d <;> simp [hu] at hres
      rename_i e
      cases hk : P.info? e with
      | none => simp [hk] at hres
      | some i =>
        cases hz : zeroDs P e with
        | none => simp [hk, hz] at hres
        | some z =>
          simp [hk, hz] at hres
          obtain ⟨oc', ⟨h1, rfl⟩, rfl, rfl⟩ := hres
          obtain ⟨i', zv, q1, q2, q3⟩ := zeroDs_spec hz
          rw [hk] at q1; cases q1
          exact snd_mks hop ⟨hu, hk, q2, q3, h1⟩ hi hr h
  case range t x =>
    cases hu : P.underlying t with
    | none => simp [hu] at hres
    | some d =>
      cases d <;> simp [hu] at hres
      obtain ⟨rfl, rfl⟩ := hres
      exact snd_rngS hop hu hi hr h
  case next it b =>
    cases b <;> simp at hres
    obtain ⟨rfl, rfl⟩ := hres
    exact snd_nxtS hop hi hr h
  case makeInterface t x =>
    split at hres
    · rename_i hc; simp at hres; obtain ⟨rfl, rfl⟩ := hres; exact snd_mkI hop hc hi hr h
    · cases hres
  case makeFunc f first cap => simp at hres; obtain ⟨rfl, rfl⟩ := hres; exact snd_mkF hop hi hr h
  case slice t x lo hi2 mx =>
    cases mx with
    | some m => simp at hres
    | none =>
      unfold resSlc at hres
      cases hu : P.underlying t with
      | none => simp [hu] at hres
      | some d =>
        cases d <;> simp only [hu] at hres <;> first
          | (simp at hres; done)
          | skip
        case string => simp at hres; obtain ⟨rfl, rfl⟩ := hres; exact snd_slcS hop hu hi hr h
        case slice e =>
          cases hk : szOf P e with
          | none => simp [hk] at hres
          | some k => simp [hk] at hres; obtain ⟨rfl, rfl⟩ := hres; exact snd_slcL hop hu hk hi hr h
        case array n e =>
          cases hk : szOf P e with
          | none => simp [hk] at hres
          | some k => simp [hk] at hres; obtain ⟨rfl, rfl⟩ := hres; exact snd_slcA hop hu hk hi hr h
  case fieldAddr t x f =>
    cases hu : P.underlying t with
    | none => simp [hu] at hres
    | some d =>
      cases d <;> simp only [hu] at hres <;> first
        | (cases hres; done)
        | skip
      rename_i fs
      cases hf : fs[f]? with
      | none => simp [hf] at hres
      | some fl =>
        cases hm : szOf P fl.type with
        | none => simp [hf, hm] at hres
        | some n =>
          cases n with
          | zero => simp [hf, hm] at hres
          | succ n => simp [hf, hm] at hres; obtain ⟨rfl, rfl⟩ := hres; exact snd_fld hop hu hf hm hi hr h
  case field t x f =>
    cases hu : P.underlying t with
    | none => simp [hu] at hres
    | some d =>
      cases d <;> simp only [hu] at hres <;> first
        | (cases hres; done)
        | skip
      rename_i fs
      cases hf : fs[f]? with
      | none => simp [hf] at hres
      | some fl =>
        cases hm : szOf P fl.type with
        | none => simp [hf, hm] at hres
        | some n =>
          cases hd : P.underlying fl.type with
          | none => simp [hf, hm, hd] at hres
          | some d =>
            simp only [hf, hm, hd] at hres
            have h2 := snd_fv (ρ := ρ) (K := K) hop hu hf hm hd hi (ds := ds)
            cases he : isRowT d <;> simp [he] at hres h2 <;> obtain ⟨rfl, rfl⟩ := hres <;> exact h2 hr h
  case indexAddr t x i =>
    cases hu : P.underlying t with
    | none => simp [hu] at hres
    | some d =>
      cases d <;> simp only [hu] at hres <;> first
        | (cases hres; done)
        | skip
      case array n e =>
        cases hk : szOf P e with
        | none => simp [hk] at hres
        | some k => simp [hk] at hres; obtain ⟨rfl, rfl⟩ := hres; exact snd_ixaA hop hu hk hi hr h
      case slice e =>
        cases hk : szOf P e with
        | none => simp [hk] at hres
        | some k => simp [hk] at hres; obtain ⟨rfl, rfl⟩ := hres; exact snd_ixaS hop hu hk hi hr h
  case index t x i =>
    cases hu : P.underlying t with
    | none => simp [hu] at hres
    | some d =>
      cases d <;> simp only [hu] at hres <;> first
        | (cases hres; done)
        | skip
      case string => simp at hres; obtain ⟨rfl, rfl⟩ := hres; exact snd_ixvS hop hu hi hr h
      case array n e =>
        cases hk : szOf P e with
        | none => simp [hk] at hres
        | some k =>
          cases hd : P.underlying e with
          | none => simp [hk, hd] at hres
          | some d =>
            simp only [hk, hd] at hres
            cases he : isRowT d
            · simp [he] at hres
              obtain ⟨rfl, rfl, rfl⟩ := hres
              have h2 := snd_ixvA (ρ := ρ) (K := K) hop hu hk hd (fun _ => rfl) hi hr
              rw [he] at h2; exact h2 h
            · simp [he] at hres
              obtain ⟨rfl, rfl⟩ := hres
              have h2 := snd_ixvA (ρ := ρ) (K := K) hop hu hk hd (by simp [he]) hi hr
              rw [he] at h2; exact h2 h
  case extract x i => simp at hres; obtain ⟨rfl, rfl⟩ := hres; exact snd_ext hop hi hr h
  case call c =>
    simp only [resCall] at hres
    cases hc : c.callee with
    | value f => simp [hc] at hres; obtain ⟨rfl, rfl⟩ := hres; simp [isCall] at hnc
    | invoke r m => simp [hc] at hres
    | builtin b =>
      cases b <;> simp only [hc] at hres <;> first
        | (cases hres; done)
        | skip
      case len =>
        split at hres
        case h_2 => cases hres
        rename_i t x ht hx
        cases hu : P.underlying t with
        | none => simp [hu] at hres
        | some d =>
          cases d <;> simp [hu] at hres
          case string => obtain ⟨rfl, rfl⟩ := hres; exact snd_lenS hop hc ht hx hu hi hr h
          case slice e => obtain ⟨rfl, rfl⟩ := hres; exact snd_lenL hop hc ht hx hu hi hr h
          case array n e => obtain ⟨rfl, rfl⟩ := hres; exact snd_lenA hop hc ht hx hu hi h
      case append =>
        split at hres
        case h_2 => cases hres
        rename_i t u x y ht hx
        unfold resApp at hres
        cases hut : P.underlying t with
        | none => simp [hut] at hres
        | some d =>
          cases d <;> simp [hut] at hres
          rename_i e
          cases hk : P.info? e with
          | none => simp [hk] at hres
          | some i =>
            cases hz : zeroDs P e with
            | none => simp [hk, hz] at hres
            | some z =>
              simp [hk, hz] at hres
              obtain ⟨a, b, ⟨⟨h1, h2, h3⟩, rfl, rfl⟩, rfl, rfl⟩ := hres
              obtain ⟨i', zv, q1, q2, q3⟩ := zeroDs_spec hz
              rw [hk] at q1; cases q1
              refine snd_app hop hc (by apply Array.ext'; simpa using ht) hx ⟨hut, hk, q2, q3, h1⟩ h2 ?_ hi hr h
              cases huu : P.underlying u with
              | none => simp [huu] at h3
              | some d =>
                cases d <;> simp [huu] at h3
                · exact .inr rfl
                · exact .inl ⟨_, rfl⟩
      case copy =>
        split at hres
        case h_2 => cases hres
        rename_i t x y ht hx
        cases hu : P.underlying t with
        | none => simp [hu] at hres
        | some d =>
          cases d <;> simp [hu] at hres
          rename_i e
          cases hk : szOf P e with
          | none => simp [hk] at hres
          | some k => simp [hk] at hres; obtain ⟨rfl, rfl⟩ := hres; exact snd_cpy hop hc ht hx hu hk hi hr h
      case max => simp at hres; obtain ⟨rfl, rfl⟩ := hres; exact snd_max hop hc hi hr h
      case min => simp at hres; obtain ⟨rfl, rfl⟩ := hres; exact snd_min hop hc hi hr h
end
end GoV
