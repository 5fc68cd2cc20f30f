/- The engine, part r: rules by which simp evaluates a row of operations. Own work; no program in sight. -/
import Derived.Test.YtapoplenfgjcjaaDoorEp
import Derived.Test.YtapoplenfgjcjaaDoorEo
set_option linter.unusedSimpArgs false
namespace GoV
open Go

/-- One operation at evaluated operands, then the rest. -/
def OpS (P : Mod) (oc : OC) (ds : List D) (dst : Dst) (r : List RO) (K : St → Prop) (s : St) : Prop :=
  OcWp P oc ds s.hp fun d hp => opsWp P r K ({ s with hp := hp }.put dst d)

/-- One guarded operation at its evaluated guard. -/
def GdS (P : Mod) (b : D) (g : Opd) (want : Bool) (dst : Dst) (oc : OC) (args : List Opd) (r : List RO) (K : St → Prop) (s : St) : Prop :=
  match b with
  | .bool b => (b = want → opsWp P (⟨dst, oc, args, none⟩ :: r) K (s.setO g (.bool want))) ∧ (b = (!want) → opsWp P r K ((s.setO g (.bool (!want))).put dst .skip))
  | .skip => opsWp P r K (s.put dst .skip)
  | _ => False

/-- The same in a region that draws. -/
def OpQ (P : Mod) (oc : OC) (ds : List D) (dst : Dst) (r : List RO) (K : St → Prop) (s : St) : Prop :=
  quietWp P oc ds s.hp fun d => opsQ P r K (s.put dst d)

def GdQ (P : Mod) (b : D) (g : Opd) (want : Bool) (dst : Dst) (oc : OC) (args : List Opd) (r : List RO) (K : St → Prop) (s : St) : Prop :=
  match b with
  | .bool b => (b = want → opsQ P (⟨dst, oc, args, none⟩ :: r) K (s.setO g (.bool want))) ∧ (b = (!want) → opsQ P r K ((s.setO g (.bool (!want))).put dst .skip))
  | .skip => opsQ P r K (s.put dst .skip)
  | _ => False

/-- A load at what a block holds. -/
def LdS (P : Mod) (ag : Bool) (n : Nat) (B : Option Blk) (off : Nat) (dst : Dst) (r : List RO) (K : St → Prop) (s : St) : Prop :=
  ∃ cs, B = some (.cells cs) ∧ off + n ≤ cs.length ∧ opsWp P r K (s.put dst (if ag then .agg ((cs.drop off).take n) else cs.getD off .undef))
def LdQ (P : Mod) (ag : Bool) (n : Nat) (B : Option Blk) (off : Nat) (dst : Dst) (r : List RO) (K : St → Prop) (s : St) : Prop :=
  ∃ cs, B = some (.cells cs) ∧ off + n ≤ cs.length ∧ opsQ P r K (s.put dst (if ag then .agg ((cs.drop off).take n) else cs.getD off .undef))
def StS (P : Mod) (n : Nat) (B : Option Blk) (b off : Nat) (v : D) (dst : Dst) (r : List RO) (K : St → Prop) (s : St) : Prop :=
  ∃ cs, B = some (.cells cs) ∧ v.isVal = true ∧ v.cells.length = n ∧ off + n ≤ cs.length ∧ opsWp P r K ({ s with hp := { s.hp with H := s.hp.H.set b (.cells (setL cs off v.cells)) } }.put dst .skip)
/-- A struct or an array out of its parts. -/
def BlS (P : Mod) (cs : Option (List D)) (dst : Dst) (r : List RO) (K : St → Prop) (s : St) : Prop := ∃ c, cs = some c ∧ opsWp P r K (s.put dst (.agg c))
def BlQ (P : Mod) (cs : Option (List D)) (dst : Dst) (r : List RO) (K : St → Prop) (s : St) : Prop := ∃ c, cs = some c ∧ opsQ P r K (s.put dst (.agg c))
def EqS (P : Mod) (neg : Bool) (b : Option Bool) (dst : Dst) (r : List RO) (K : St → Prop) (s : St) : Prop := ∃ c, b = some c ∧ opsWp P r K (s.put dst (.bool (if neg then !c else c)))
def EqQ (P : Mod) (neg : Bool) (b : Option Bool) (dst : Dst) (r : List RO) (K : St → Prop) (s : St) : Prop := ∃ c, b = some c ∧ opsQ P r K (s.put dst (.bool (if neg then !c else c)))
def MmS (P : Mod) (k : IntKind) (b : Option Int) (dst : Dst) (r : List RO) (K : St → Prop) (s : St) : Prop := ∃ c, b = some c ∧ opsWp P r K (s.put dst (.int k c))
def MmQ (P : Mod) (k : IntKind) (b : Option Int) (dst : Dst) (r : List RO) (K : St → Prop) (s : St) : Prop := ∃ c, b = some c ∧ opsQ P r K (s.put dst (.int k c))

section
variable {P : Mod} {oc : OC} {args : List Opd} {dst : Dst} {r : List RO} {K : St → Prop} {s : St} {g : Opd} {want : Bool} {k k' : IntKind} {a b : Int} {x y : D} {ds : List D}

theorem e_nil : opsWp P [] K s = K s := propext Iff.rfl
theorem e_step : opsWp P (⟨dst, oc, args, none⟩ :: r) K s = OpS P oc (args.map s.get) dst r K s := propext Iff.rfl
theorem e_guard : opsWp P (⟨dst, oc, args, some (g, want)⟩ :: r) K s = GdS P (s.get g) g want dst oc args r K s := by
  simp only [opsWp, headWp, GdS]
  cases s.get g <;> simp only [opsWp, headWp, setO_hp]
theorem f_nil : opsQ P [] K s = K s := propext Iff.rfl
theorem f_step : opsQ P (⟨dst, oc, args, none⟩ :: r) K s = OpQ P oc (args.map s.get) dst r K s := propext Iff.rfl
theorem f_guard : opsQ P (⟨dst, oc, args, some (g, want)⟩ :: r) K s = GdQ P (s.get g) g want dst oc args r K s := by
  simp only [opsQ, headQ, GdQ]
  cases s.get g <;> simp only [opsQ, headQ, setO_hp]

theorem g_tt : GdS P (.bool true) g true dst oc args r K s = opsWp P (⟨dst, oc, args, none⟩ :: r) K (s.setO g (.bool true)) := by simp [GdS]
theorem g_tf : GdS P (.bool true) g false dst oc args r K s = opsWp P r K ((s.setO g (.bool true)).put dst .skip) := by simp [GdS]
theorem g_ft : GdS P (.bool false) g true dst oc args r K s = opsWp P r K ((s.setO g (.bool false)).put dst .skip) := by simp [GdS]
theorem g_ff : GdS P (.bool false) g false dst oc args r K s = opsWp P (⟨dst, oc, args, none⟩ :: r) K (s.setO g (.bool false)) := by simp [GdS]
theorem g_sk : GdS P .skip g want dst oc args r K s = opsWp P r K (s.put dst .skip) := propext Iff.rfl
theorem h_tt : GdQ P (.bool true) g true dst oc args r K s = opsQ P (⟨dst, oc, args, none⟩ :: r) K (s.setO g (.bool true)) := by simp [GdQ]
theorem h_tf : GdQ P (.bool true) g false dst oc args r K s = opsQ P r K ((s.setO g (.bool true)).put dst .skip) := by simp [GdQ]
theorem h_ft : GdQ P (.bool false) g true dst oc args r K s = opsQ P r K ((s.setO g (.bool false)).put dst .skip) := by simp [GdQ]
theorem h_ff : GdQ P (.bool false) g false dst oc args r K s = opsQ P (⟨dst, oc, args, none⟩ :: r) K (s.setO g (.bool false)) := by simp [GdQ]
theorem h_sk : GdQ P .skip g want dst oc args r K s = opsQ P r K (s.put dst .skip) := propext Iff.rfl

/-- A guard that isn't known: both ways. -/
theorem gd_split {c : Bool} (h1 : c = true → GdS P (.bool true) g want dst oc args r K s) (h2 : c = false → GdS P (.bool false) g want dst oc args r K s) : GdS P (.bool c) g want dst oc args r K s := by
  cases c
  · exact h2 rfl
  · exact h1 rfl
theorem gq_split {c : Bool} (h1 : c = true → GdQ P (.bool true) g want dst oc args r K s) (h2 : c = false → GdQ P (.bool false) g want dst oc args r K s) : GdQ P (.bool c) g want dst oc args r K s := by
  cases c
  · exact h2 rfl
  · exact h1 rfl

theorem o_mv : OpS P .mv [x] dst r K s = opsWp P r K (s.put dst x) := propext Iff.rfl
theorem p_mv : OpQ P .mv [x] dst r K s = opsQ P r K (s.put dst x) := by simp [OpQ, quietWp, isCall, opWp]
theorem o_pickT : OpS P .pick [.bool true, x, y] dst r K s = opsWp P r K (s.put dst x) := by simp [OpS, OcWp, isCall, opWp]
theorem o_pickF : OpS P .pick [.bool false, x, y] dst r K s = opsWp P r K (s.put dst y) := by simp [OpS, OcWp, isCall, opWp]
theorem p_pickT : OpQ P .pick [.bool true, x, y] dst r K s = opsQ P r K (s.put dst x) := by simp [OpQ, quietWp, isCall, opWp]
theorem p_pickF : OpQ P .pick [.bool false, x, y] dst r K s = opsQ P r K (s.put dst y) := by simp [OpQ, quietWp, isCall, opWp]
theorem o_add : OpS P (.bin .add) [.int k a, .int k b] dst r K s = opsWp P r K (s.put dst (.int k (k.wrap (a + b)))) := by simp [OpS, OcWp, isCall, opWp, binWp]
theorem o_sub : OpS P (.bin .sub) [.int k a, .int k b] dst r K s = opsWp P r K (s.put dst (.int k (k.wrap (a - b)))) := by simp [OpS, OcWp, isCall, opWp, binWp]
theorem o_mul : OpS P (.bin .mul) [.int k a, .int k b] dst r K s = opsWp P r K (s.put dst (.int k (k.wrap (a * b)))) := by simp [OpS, OcWp, isCall, opWp, binWp]
theorem o_quo : OpS P (.bin .quo) [.int k a, .int k b] dst r K s = (b ≠ 0 ∧ opsWp P r K (s.put dst (.int k (k.wrap (a.tdiv b))))) := by simp [OpS, OcWp, isCall, opWp, binWp]
theorem o_rem : OpS P (.bin .rem) [.int k a, .int k b] dst r K s = (b ≠ 0 ∧ opsWp P r K (s.put dst (.int k (a.tmod b)))) := by simp [OpS, OcWp, isCall, opWp, binWp]
theorem o_and : OpS P (.bin .and) [.int k a, .int k b] dst r K s = opsWp P r K (s.put dst (.int k (bitsV .and k a b))) := by simp [OpS, OcWp, isCall, opWp, binWp]
theorem o_or : OpS P (.bin .or) [.int k a, .int k b] dst r K s = opsWp P r K (s.put dst (.int k (bitsV .or k a b))) := by simp [OpS, OcWp, isCall, opWp, binWp]
theorem o_xor : OpS P (.bin .xor) [.int k a, .int k b] dst r K s = opsWp P r K (s.put dst (.int k (bitsV .xor k a b))) := by simp [OpS, OcWp, isCall, opWp, binWp]
theorem o_shl : OpS P (.bin .shl) [.int k a, .int k' b] dst r K s = (0 ≤ b ∧ opsWp P r K (s.put dst (.int k (k.wrap (a * 2 ^ (min b.toNat k.bits)))))) := by simp [OpS, OcWp, isCall, opWp, binWp]
theorem o_shr : OpS P (.bin .shr) [.int k a, .int k' b] dst r K s = (0 ≤ b ∧ opsWp P r K (s.put dst (.int k (a.fdiv (2 ^ (min b.toNat k.bits)))))) := by simp [OpS, OcWp, isCall, opWp, binWp]
theorem o_eql : OpS P (.bin .eql) [.int k a, .int k b] dst r K s = opsWp P r K (s.put dst (.bool (a == b))) := by simp [OpS, OcWp, isCall, opWp, binWp]
theorem o_neq : OpS P (.bin .neq) [.int k a, .int k b] dst r K s = opsWp P r K (s.put dst (.bool (a != b))) := by simp [OpS, OcWp, isCall, opWp, binWp]
theorem o_lss : OpS P (.bin .lss) [.int k a, .int k b] dst r K s = opsWp P r K (s.put dst (.bool (decide (a < b)))) := by simp [OpS, OcWp, isCall, opWp, binWp]
theorem o_leq : OpS P (.bin .leq) [.int k a, .int k b] dst r K s = opsWp P r K (s.put dst (.bool (decide (a ≤ b)))) := by simp [OpS, OcWp, isCall, opWp, binWp]
theorem o_gtr : OpS P (.bin .gtr) [.int k a, .int k b] dst r K s = opsWp P r K (s.put dst (.bool (decide (b < a)))) := by simp [OpS, OcWp, isCall, opWp, binWp]
theorem o_geq : OpS P (.bin .geq) [.int k a, .int k b] dst r K s = opsWp P r K (s.put dst (.bool (decide (b ≤ a)))) := by simp [OpS, OcWp, isCall, opWp, binWp]
theorem p_add : OpQ P (.bin .add) [.int k a, .int k b] dst r K s = opsQ P r K (s.put dst (.int k (k.wrap (a + b)))) := by simp [OpQ, quietWp, isCall, opWp, binWp]
theorem p_sub : OpQ P (.bin .sub) [.int k a, .int k b] dst r K s = opsQ P r K (s.put dst (.int k (k.wrap (a - b)))) := by simp [OpQ, quietWp, isCall, opWp, binWp]
theorem p_mul : OpQ P (.bin .mul) [.int k a, .int k b] dst r K s = opsQ P r K (s.put dst (.int k (k.wrap (a * b)))) := by simp [OpQ, quietWp, isCall, opWp, binWp]
theorem p_quo : OpQ P (.bin .quo) [.int k a, .int k b] dst r K s = (b ≠ 0 ∧ opsQ P r K (s.put dst (.int k (k.wrap (a.tdiv b))))) := by simp [OpQ, quietWp, isCall, opWp, binWp]
theorem p_rem : OpQ P (.bin .rem) [.int k a, .int k b] dst r K s = (b ≠ 0 ∧ opsQ P r K (s.put dst (.int k (a.tmod b)))) := by simp [OpQ, quietWp, isCall, opWp, binWp]
theorem p_eql : OpQ P (.bin .eql) [.int k a, .int k b] dst r K s = opsQ P r K (s.put dst (.bool (a == b))) := by simp [OpQ, quietWp, isCall, opWp, binWp]
theorem p_neq : OpQ P (.bin .neq) [.int k a, .int k b] dst r K s = opsQ P r K (s.put dst (.bool (a != b))) := by simp [OpQ, quietWp, isCall, opWp, binWp]
theorem p_lss : OpQ P (.bin .lss) [.int k a, .int k b] dst r K s = opsQ P r K (s.put dst (.bool (decide (a < b)))) := by simp [OpQ, quietWp, isCall, opWp, binWp]
theorem p_leq : OpQ P (.bin .leq) [.int k a, .int k b] dst r K s = opsQ P r K (s.put dst (.bool (decide (a ≤ b)))) := by simp [OpQ, quietWp, isCall, opWp, binWp]
theorem p_gtr : OpQ P (.bin .gtr) [.int k a, .int k b] dst r K s = opsQ P r K (s.put dst (.bool (decide (b < a)))) := by simp [OpQ, quietWp, isCall, opWp, binWp]
theorem p_geq : OpQ P (.bin .geq) [.int k a, .int k b] dst r K s = opsQ P r K (s.put dst (.bool (decide (b ≤ a)))) := by simp [OpQ, quietWp, isCall, opWp, binWp]
theorem o_cat {u v : List UInt8} : OpS P (.bin .add) [.str u, .str v] dst r K s = (u.length + v.length ≤ 4611686018427387904 ∧ opsWp P r K (s.put dst (.str (u ++ v)))) := by simp [OpS, OcWp, isCall, opWp, binWp]
theorem o_seq {u v : List UInt8} : OpS P (.bin .eql) [.str u, .str v] dst r K s = opsWp P r K (s.put dst (.bool (u == v))) := by simp [OpS, OcWp, isCall, opWp, binWp]
theorem o_sne {u v : List UInt8} : OpS P (.bin .neq) [.str u, .str v] dst r K s = opsWp P r K (s.put dst (.bool (!(u == v)))) := by simp [OpS, OcWp, isCall, opWp, binWp]
theorem o_slt {u v : List UInt8} : OpS P (.bin .lss) [.str u, .str v] dst r K s = opsWp P r K (s.put dst (.bool (Op.bytesLess u v))) := by simp [OpS, OcWp, isCall, opWp, binWp]
theorem p_cat {u v : List UInt8} : OpQ P (.bin .add) [.str u, .str v] dst r K s = (u.length + v.length ≤ 4611686018427387904 ∧ opsQ P r K (s.put dst (.str (u ++ v)))) := by simp [OpQ, quietWp, isCall, opWp, binWp]
theorem p_seq {u v : List UInt8} : OpQ P (.bin .eql) [.str u, .str v] dst r K s = opsQ P r K (s.put dst (.bool (u == v))) := by simp [OpQ, quietWp, isCall, opWp, binWp]
theorem p_sne {u v : List UInt8} : OpQ P (.bin .neq) [.str u, .str v] dst r K s = opsQ P r K (s.put dst (.bool (!(u == v)))) := by simp [OpQ, quietWp, isCall, opWp, binWp]
theorem p_slt {u v : List UInt8} : OpQ P (.bin .lss) [.str u, .str v] dst r K s = opsQ P r K (s.put dst (.bool (Op.bytesLess u v))) := by simp [OpQ, quietWp, isCall, opWp, binWp]
theorem o_beqF {u v : Bool} : OpS P (.eqB false) [.bool u, .bool v] dst r K s = opsWp P r K (s.put dst (.bool (u == v))) := by simp [OpS, OcWp, isCall, opWp]
theorem o_beqT {u v : Bool} : OpS P (.eqB true) [.bool u, .bool v] dst r K s = opsWp P r K (s.put dst (.bool (!(u == v)))) := by simp [OpS, OcWp, isCall, opWp]
theorem p_beqF {u v : Bool} : OpQ P (.eqB false) [.bool u, .bool v] dst r K s = opsQ P r K (s.put dst (.bool (u == v))) := by simp [OpQ, quietWp, isCall, opWp]
theorem p_beqT {u v : Bool} : OpQ P (.eqB true) [.bool u, .bool v] dst r K s = opsQ P r K (s.put dst (.bool (!(u == v)))) := by simp [OpQ, quietWp, isCall, opWp]
theorem o_eqA {neg : Bool} {ks : List EK} {u v : List D} : OpS P (.eqA neg ks) [.agg u, .agg v] dst r K s = EqS P neg (eqDs ks u v) dst r K s := by simp [OpS, OcWp, isCall, opWp, EqS]
theorem p_eqA {neg : Bool} {ks : List EK} {u v : List D} : OpQ P (.eqA neg ks) [.agg u, .agg v] dst r K s = EqQ P neg (eqDs ks u v) dst r K s := by simp [OpQ, quietWp, isCall, opWp, EqQ]
theorem q_eqSF {c : Bool} : EqS P false (some c) dst r K s = opsWp P r K (s.put dst (.bool c)) := by simp [EqS]
theorem q_eqST {c : Bool} : EqS P true (some c) dst r K s = opsWp P r K (s.put dst (.bool (!c))) := by simp [EqS]
theorem q_eqQF {c : Bool} : EqQ P false (some c) dst r K s = opsQ P r K (s.put dst (.bool c)) := by simp [EqQ]
theorem q_eqQT {c : Bool} : EqQ P true (some c) dst r K s = opsQ P r K (s.put dst (.bool (!c))) := by simp [EqQ]
theorem o_neg : OpS P (.un .neg) [.int k a] dst r K s = opsWp P r K (s.put dst (.int k (k.wrap (0 - a)))) := by simp [OpS, OcWp, isCall, opWp, unWp]
theorem p_neg : OpQ P (.un .neg) [.int k a] dst r K s = opsQ P r K (s.put dst (.int k (k.wrap (0 - a)))) := by simp [OpQ, quietWp, isCall, opWp, unWp]
theorem o_not {c : Bool} : OpS P (.un .not) [.bool c] dst r K s = opsWp P r K (s.put dst (.bool (!c))) := by simp [OpS, OcWp, isCall, opWp, unWp]
theorem p_not {c : Bool} : OpQ P (.un .not) [.bool c] dst r K s = opsQ P r K (s.put dst (.bool (!c))) := by simp [OpQ, quietWp, isCall, opWp, unWp]
theorem o_cvI : OpS P (.cvI k) [.int k' a] dst r K s = opsWp P r K (s.put dst (.int k (k.wrap a))) := by simp [OpS, OcWp, isCall, opWp]
theorem p_cvI : OpQ P (.cvI k) [.int k' a] dst r K s = opsQ P r K (s.put dst (.int k (k.wrap a))) := by simp [OpQ, quietWp, isCall, opWp]
theorem o_newb {z : List D} : OpS P (.newb z) [] dst r K s = opsWp P r K ({ s with hp := { s.hp with H := s.hp.H ++ [Blk.cells z] } }.put dst (.ptr s.hp.H.length 0)) := by simp [OpS, OcWp, isCall, opWp]
theorem o_box : OpS P .box [x] dst r K s = (x.isVal = true ∧ opsWp P r K ({ s with hp := { s.hp with H := s.hp.H ++ [Blk.cells x.cells] } }.put dst (.ptr s.hp.H.length 0))) := by simp [OpS, OcWp, isCall, opWp]
theorem o_bld {z : List D} {ps : List (Nat × Nat)} : OpS P (.bld z ps) ds dst r K s = BlS P (fillL z ps ds) dst r K s := by simp [OpS, OcWp, isCall, opWp, BlS]
theorem p_bld {z : List D} {ps : List (Nat × Nat)} : OpQ P (.bld z ps) ds dst r K s = BlQ P (fillL z ps ds) dst r K s := by simp [OpQ, quietWp, isCall, opWp, BlQ]
theorem q_blS {c : List D} : BlS P (some c) dst r K s = opsWp P r K (s.put dst (.agg c)) := by simp [BlS]
theorem q_blQ {c : List D} : BlQ P (some c) dst r K s = opsQ P r K (s.put dst (.agg c)) := by simp [BlQ]
theorem o_ldp {ag : Bool} {n bk off : Nat} : OpS P (.ld ag n) [.ptr bk off] dst r K s = LdS P ag n (s.hp.H[bk]?) off dst r K s := by simp [OpS, OcWp, isCall, opWp, LdS]
theorem p_ldp {ag : Bool} {n bk off : Nat} : OpQ P (.ld ag n) [.ptr bk off] dst r K s = LdQ P ag n (s.hp.H[bk]?) off dst r K s := by simp [OpQ, quietWp, isCall, opWp, LdQ]
theorem q_ldST {n off : Nat} {cs : List D} : LdS P true n (some (.cells cs)) off dst r K s = (off + n ≤ cs.length ∧ opsWp P r K (s.put dst (.agg ((cs.drop off).take n)))) := by simp [LdS]
theorem q_ldSF {n off : Nat} {cs : List D} : LdS P false n (some (.cells cs)) off dst r K s = (off + n ≤ cs.length ∧ opsWp P r K (s.put dst (cs.getD off .undef))) := by simp [LdS]
theorem q_ldQT {n off : Nat} {cs : List D} : LdQ P true n (some (.cells cs)) off dst r K s = (off + n ≤ cs.length ∧ opsQ P r K (s.put dst (.agg ((cs.drop off).take n)))) := by simp [LdQ]
theorem q_ldQF {n off : Nat} {cs : List D} : LdQ P false n (some (.cells cs)) off dst r K s = (off + n ≤ cs.length ∧ opsQ P r K (s.put dst (cs.getD off .undef))) := by simp [LdQ]
theorem o_ldiT {n : Nat} {cs : List D} : OpS P (.ld true n) [.ip cs] dst r K s = (n ≤ cs.length ∧ opsWp P r K (s.put dst (.agg (cs.take n)))) := by simp [OpS, OcWp, isCall, opWp]
theorem o_ldiF {n : Nat} {cs : List D} : OpS P (.ld false n) [.ip cs] dst r K s = (n ≤ cs.length ∧ opsWp P r K (s.put dst (cs.getD 0 .undef))) := by simp [OpS, OcWp, isCall, opWp]
theorem p_ldiT {n : Nat} {cs : List D} : OpQ P (.ld true n) [.ip cs] dst r K s = (n ≤ cs.length ∧ opsQ P r K (s.put dst (.agg (cs.take n)))) := by simp [OpQ, quietWp, isCall, opWp]
theorem p_ldiF {n : Nat} {cs : List D} : OpQ P (.ld false n) [.ip cs] dst r K s = (n ≤ cs.length ∧ opsQ P r K (s.put dst (cs.getD 0 .undef))) := by simp [OpQ, quietWp, isCall, opWp]
theorem o_stp {n bk off : Nat} : OpS P (.st n) [.ptr bk off, x] dst r K s = StS P n (s.hp.H[bk]?) bk off x dst r K s := by simp [OpS, OcWp, isCall, opWp, StS]
theorem q_stS {n bk off : Nat} {cs : List D} : StS P n (some (.cells cs)) bk off x dst r K s = (x.isVal = true ∧ x.cells.length = n ∧ off + n ≤ cs.length ∧ opsWp P r K ({ s with hp := { s.hp with H := s.hp.H.set bk (.cells (setL cs off x.cells)) } }.put dst .skip)) := by simp [StS]
theorem o_fldp {off bk o : Nat} : OpS P (.fld off) [.ptr bk o] dst r K s = opsWp P r K (s.put dst (.ptr bk (o + off))) := by simp [OpS, OcWp, isCall, opWp]
theorem p_fldp {off bk o : Nat} : OpQ P (.fld off) [.ptr bk o] dst r K s = opsQ P r K (s.put dst (.ptr bk (o + off))) := by simp [OpQ, quietWp, isCall, opWp]
theorem o_fldi {off : Nat} {cs : List D} : OpS P (.fld off) [.ip cs] dst r K s = opsWp P r K (s.put dst (.ip (cs.drop off))) := by simp [OpS, OcWp, isCall, opWp]
theorem p_fldi {off : Nat} {cs : List D} : OpQ P (.fld off) [.ip cs] dst r K s = opsQ P r K (s.put dst (.ip (cs.drop off))) := by simp [OpQ, quietWp, isCall, opWp]
theorem o_fvT {off n : Nat} {cs : List D} : OpS P (.fv true off n) [.agg cs] dst r K s = (off + n ≤ cs.length ∧ opsWp P r K (s.put dst (.agg ((cs.drop off).take n)))) := by simp [OpS, OcWp, isCall, opWp]
theorem o_fvF {off n : Nat} {cs : List D} : OpS P (.fv false off n) [.agg cs] dst r K s = (off + n ≤ cs.length ∧ opsWp P r K (s.put dst (cs.getD off .undef))) := by simp [OpS, OcWp, isCall, opWp]
theorem p_fvT {off n : Nat} {cs : List D} : OpQ P (.fv true off n) [.agg cs] dst r K s = (off + n ≤ cs.length ∧ opsQ P r K (s.put dst (.agg ((cs.drop off).take n)))) := by simp [OpQ, quietWp, isCall, opWp]
theorem p_fvF {off n : Nat} {cs : List D} : OpQ P (.fv false off n) [.agg cs] dst r K s = (off + n ≤ cs.length ∧ opsQ P r K (s.put dst (cs.getD off .undef))) := by simp [OpQ, quietWp, isCall, opWp]
theorem o_ixaA {len n bk o : Nat} : OpS P (.ixaA len n) [.ptr bk o, .int k a] dst r K s = (0 ≤ a ∧ a < len ∧ opsWp P r K (s.put dst (.ptr bk (o + a.toNat * n)))) := by simp [OpS, OcWp, isCall, opWp]
theorem p_ixaA {len n bk o : Nat} : OpQ P (.ixaA len n) [.ptr bk o, .int k a] dst r K s = (0 ≤ a ∧ a < len ∧ opsQ P r K (s.put dst (.ptr bk (o + a.toNat * n)))) := by simp [OpQ, quietWp, isCall, opWp]
theorem o_ixaS {n : Nat} {es : List D} {tok : Option Nat} : OpS P (.ixaS n) [.slice es tok, .int k a] dst r K s = (0 ≤ a ∧ a < es.length ∧ (es.getD a.toNat .undef).isVal = true ∧ (es.getD a.toNat .undef).cells.length = n ∧ opsWp P r K (s.put dst (.ip (es.getD a.toNat .undef).cells))) := by simp [OpS, OcWp, isCall, opWp]
theorem p_ixaS {n : Nat} {es : List D} {tok : Option Nat} : OpQ P (.ixaS n) [.slice es tok, .int k a] dst r K s = (0 ≤ a ∧ a < es.length ∧ (es.getD a.toNat .undef).isVal = true ∧ (es.getD a.toNat .undef).cells.length = n ∧ opsQ P r K (s.put dst (.ip (es.getD a.toNat .undef).cells))) := by simp [OpQ, quietWp, isCall, opWp]
theorem o_ixvS {u : List UInt8} : OpS P .ixvS [.str u, .int k a] dst r K s = (0 ≤ a ∧ a < u.length ∧ opsWp P r K (s.put dst (.int .u8 (u.getD a.toNat 0).toNat))) := by simp [OpS, OcWp, isCall, opWp]
theorem p_ixvS {u : List UInt8} : OpQ P .ixvS [.str u, .int k a] dst r K s = (0 ≤ a ∧ a < u.length ∧ opsQ P r K (s.put dst (.int .u8 (u.getD a.toNat 0).toNat))) := by simp [OpQ, quietWp, isCall, opWp]
theorem o_slTF {u : List UInt8} : OpS P (.slcS true false) [.str u, .int k a] dst r K s = (0 ≤ a ∧ a ≤ u.length ∧ opsWp P r K (s.put dst (.str (u.drop a.toNat)))) := by simp [OpS, OcWp, isCall, opWp]
theorem p_slTF {u : List UInt8} : OpQ P (.slcS true false) [.str u, .int k a] dst r K s = (0 ≤ a ∧ a ≤ u.length ∧ opsQ P r K (s.put dst (.str (u.drop a.toNat)))) := by simp [OpQ, quietWp, isCall, opWp]
theorem o_slFT {u : List UInt8} : OpS P (.slcS false true) [.str u, .int k a] dst r K s = (0 ≤ a ∧ a ≤ u.length ∧ opsWp P r K (s.put dst (.str (u.take a.toNat)))) := by simp [OpS, OcWp, isCall, opWp]
theorem p_slFT {u : List UInt8} : OpQ P (.slcS false true) [.str u, .int k a] dst r K s = (0 ≤ a ∧ a ≤ u.length ∧ opsQ P r K (s.put dst (.str (u.take a.toNat)))) := by simp [OpQ, quietWp, isCall, opWp]
theorem o_slTT {u : List UInt8} : OpS P (.slcS true true) [.str u, .int k a, .int k' b] dst r K s = (0 ≤ a ∧ a ≤ b ∧ b ≤ u.length ∧ opsWp P r K (s.put dst (.str ((u.take b.toNat).drop a.toNat)))) := by simp [OpS, OcWp, isCall, opWp]
theorem p_slTT {u : List UInt8} : OpQ P (.slcS true true) [.str u, .int k a, .int k' b] dst r K s = (0 ≤ a ∧ a ≤ b ∧ b ≤ u.length ∧ opsQ P r K (s.put dst (.str ((u.take b.toNat).drop a.toNat)))) := by simp [OpQ, quietWp, isCall, opWp]
theorem o_ext {i : Nat} : OpS P (.ext i) [.tup ds] dst r K s = (i < ds.length ∧ opsWp P r K (s.put dst (ds.getD i .undef))) := by simp [OpS, OcWp, isCall, opWp]
theorem p_ext {i : Nat} : OpQ P (.ext i) [.tup ds] dst r K s = (i < ds.length ∧ opsQ P r K (s.put dst (ds.getD i .undef))) := by simp [OpQ, quietWp, isCall, opWp]
theorem o_lenA {n : Nat} : OpS P (.lenA n) ds dst r K s = opsWp P r K (s.put dst (.int .i64 n)) := by simp [OpS, OcWp, isCall, opWp]
theorem p_lenA {n : Nat} : OpQ P (.lenA n) ds dst r K s = opsQ P r K (s.put dst (.int .i64 n)) := by simp [OpQ, quietWp, isCall, opWp]
theorem o_lenS {u : List UInt8} : OpS P .lenS [.str u] dst r K s = opsWp P r K (s.put dst (.int .i64 u.length)) := by simp [OpS, OcWp, isCall, opWp]
theorem p_lenS {u : List UInt8} : OpQ P .lenS [.str u] dst r K s = opsQ P r K (s.put dst (.int .i64 u.length)) := by simp [OpQ, quietWp, isCall, opWp]
theorem o_lenL {es : List D} {tok : Option Nat} : OpS P .lenL [.slice es tok] dst r K s = opsWp P r K (s.put dst (.int .i64 es.length)) := by simp [OpS, OcWp, isCall, opWp]
theorem p_lenL {es : List D} {tok : Option Nat} : OpQ P .lenL [.slice es tok] dst r K s = opsQ P r K (s.put dst (.int .i64 es.length)) := by simp [OpQ, quietWp, isCall, opWp]
theorem o_lenN : OpS P .lenL [.lit (.slice none 0 0)] dst r K s = opsWp P r K (s.put dst (.int .i64 0)) := by simp [OpS, OcWp, isCall, opWp]
theorem p_lenN : OpQ P .lenL [.lit (.slice none 0 0)] dst r K s = opsQ P r K (s.put dst (.int .i64 0)) := by simp [OpQ, quietWp, isCall, opWp]
theorem o_min : OpS P .minI (.int k a :: ds) dst r K s = MmS P k (foldI (fun a b => if b < a then b else a) k a ds) dst r K s := by simp [OpS, OcWp, isCall, opWp, MmS]
theorem p_min : OpQ P .minI (.int k a :: ds) dst r K s = MmQ P k (foldI (fun a b => if b < a then b else a) k a ds) dst r K s := by simp [OpQ, quietWp, isCall, opWp, MmQ]
theorem o_max : OpS P .maxI (.int k a :: ds) dst r K s = MmS P k (foldI (fun a b => if b > a then b else a) k a ds) dst r K s := by simp [OpS, OcWp, isCall, opWp, MmS]
theorem p_max : OpQ P .maxI (.int k a :: ds) dst r K s = MmQ P k (foldI (fun a b => if b > a then b else a) k a ds) dst r K s := by simp [OpQ, quietWp, isCall, opWp, MmQ]
theorem q_mmS : MmS P k (some a) dst r K s = opsWp P r K (s.put dst (.int k a)) := by simp [MmS]
theorem q_mmQ : MmQ P k (some a) dst r K s = opsQ P r K (s.put dst (.int k a)) := by simp [MmQ]
theorem o_mkI {t : Nat} : OpS P (.mkI t) [x] dst r K s = opsWp P r K (s.put dst (.iface t x)) := by simp [OpS, OcWp, isCall, opWp]
theorem p_mkI {t : Nat} : OpQ P (.mkI t) [x] dst r K s = opsQ P r K (s.put dst (.iface t x)) := by simp [OpQ, quietWp, isCall, opWp]
theorem o_mkF {f : Fn} {n : Nat} : OpS P (.mkF f n) ds dst r K s = opsWp P r K (s.put dst (.fn f (ds.take n) (ds.drop n))) := by simp [OpS, OcWp, isCall, opWp]
theorem p_mkF {f : Fn} {n : Nat} : OpQ P (.mkF f n) ds dst r K s = opsQ P r K (s.put dst (.fn f (ds.take n) (ds.drop n))) := by simp [OpQ, quietWp, isCall, opWp]

/-- A call of a function that computes, in the order of the text. -/
theorem o_call {f : FuncId} {first cap : List D} {d : D} {ds' : List D} (h : Pur P f ds' d) (he : D.erL (first ++ ds ++ cap) = ds') (hc : D.closedL (first ++ ds ++ cap) = true) (hk : opsWp P r K (s.put dst d)) :
    OpS P .call (.fn (.func f) first cap :: ds) dst r K s := by
  unfold OpS OcWp
  simp only [isCall, if_true]
  exact call_pur hc (he ▸ h) hk

/-- The same in a region that draws. -/
theorem p_call {f : FuncId} {first cap : List D} {d : D} {ds' : List D} (h : Pur P f ds' d) (he : D.erL (first ++ ds ++ cap) = ds') (hc : D.closedL (first ++ ds ++ cap) = true) (hk : opsQ P r K (s.put dst d)) :
    OpQ P .call (.fn (.func f) first cap :: ds) dst r K s := by
  unfold OpQ quietWp CallQ
  simp only [isCall, if_true]
  exact ⟨d, call_pur hc (he ▸ h) ⟨rfl, rfl⟩, hk⟩
end

section
variable {P : Mod} {oc : OC} {args : List Opd} {dst : Dst} {r : List RO} {K : St → Prop} {s : St} {g : Opd} {want : Bool} {C : Cfg} {Q : Ex → St → Prop} {x y : RC}

/-- A test at its evaluated condition. -/
def CdS (C : Cfg) (b : D) (g : Opd) (x y : RC) (Q : Ex → St → Prop) (s : St) : Prop :=
  match b with
  | .bool t => (t = true → SWp C x Q (s.setO g (.bool true))) ∧ (t = false → SWp C y Q (s.setO g (.bool false)))
  | _ => False

theorem swp_cd (h : CdS C (s.get g) g x y Q s) : SWp C (.cond g x y) Q s := by
  unfold CdS at h
  split at h
  · rename_i t ht; exact swp_cond ht h.1 h.2
  · exact h.elim
theorem e_cdT : CdS C (.bool true) g x y Q s = SWp C x Q (s.setO g (.bool true)) := by simp [CdS]
theorem e_cdF : CdS C (.bool false) g x y Q s = SWp C y Q (s.setO g (.bool false)) := by simp [CdS]

/-- Both ways of a test: what is learned comes as a plain proposition. -/
theorem cd_split {c : Bool} (h1 : c = true → SWp C x Q (s.setO g (.bool true))) (h2 : c = false → SWp C y Q (s.setO g (.bool false))) : CdS C (.bool c) g x y Q s := ⟨h1, h2⟩
theorem cd_dec {p : Prop} [Decidable p] (h1 : p → SWp C x Q (s.setO g (.bool true))) (h2 : ¬p → SWp C y Q (s.setO g (.bool false))) : CdS C (.bool (decide p)) g x y Q s :=
  ⟨fun h => h1 (of_decide_eq_true h), fun h => h2 (of_decide_eq_false h)⟩
theorem cd_eq {a b : Int} (h1 : a = b → SWp C x Q (s.setO g (.bool true))) (h2 : a ≠ b → SWp C y Q (s.setO g (.bool false))) : CdS C (.bool (a == b)) g x y Q s :=
  ⟨fun h => h1 (by simpa using h), fun h => h2 (by simpa using h)⟩
theorem cd_ne {a b : Int} (h1 : a ≠ b → SWp C x Q (s.setO g (.bool true))) (h2 : a = b → SWp C y Q (s.setO g (.bool false))) : CdS C (.bool (a != b)) g x y Q s :=
  ⟨fun h => h1 (by simpa using h), fun h => h2 (by simpa using h)⟩
theorem gd_dec {p : Prop} [Decidable p] (h1 : p → GdS P (.bool true) g want dst oc args r K s) (h2 : ¬p → GdS P (.bool false) g want dst oc args r K s) : GdS P (.bool (decide p)) g want dst oc args r K s :=
  gd_split (fun h => h1 (of_decide_eq_true h)) (fun h => h2 (of_decide_eq_false h))
theorem gd_eq {a b : Int} (h1 : a = b → GdS P (.bool true) g want dst oc args r K s) (h2 : a ≠ b → GdS P (.bool false) g want dst oc args r K s) : GdS P (.bool (a == b)) g want dst oc args r K s :=
  gd_split (fun h => h1 (by simpa using h)) (fun h => h2 (by simpa using h))
theorem gd_ne {a b : Int} (h1 : a ≠ b → GdS P (.bool true) g want dst oc args r K s) (h2 : a = b → GdS P (.bool false) g want dst oc args r K s) : GdS P (.bool (a != b)) g want dst oc args r K s :=
  gd_split (fun h => h1 (by simpa using h)) (fun h => h2 (by simpa using h))
theorem gq_dec {p : Prop} [Decidable p] (h1 : p → GdQ P (.bool true) g want dst oc args r K s) (h2 : ¬p → GdQ P (.bool false) g want dst oc args r K s) : GdQ P (.bool (decide p)) g want dst oc args r K s :=
  gq_split (fun h => h1 (of_decide_eq_true h)) (fun h => h2 (of_decide_eq_false h))
theorem gq_eq {a b : Int} (h1 : a = b → GdQ P (.bool true) g want dst oc args r K s) (h2 : a ≠ b → GdQ P (.bool false) g want dst oc args r K s) : GdQ P (.bool (a == b)) g want dst oc args r K s :=
  gq_split (fun h => h1 (by simpa using h)) (fun h => h2 (by simpa using h))
theorem gq_ne {a b : Int} (h1 : a ≠ b → GdQ P (.bool true) g want dst oc args r K s) (h2 : a = b → GdQ P (.bool false) g want dst oc args r K s) : GdQ P (.bool (a != b)) g want dst oc args r K s :=
  gq_split (fun h => h1 (by simpa using h)) (fun h => h2 (by simpa using h))

/-- A result, read. -/
theorem rr_slot {o : Opd} {K : D → Prop} : rrWp (.slot o) s K = K (s.get o) := propext Iff.rfl
def RcS (ag : Bool) (n : Nat) (p : D) (H : List Blk) (K : D → Prop) : Prop :=
  match p with
  | .ptr b off => ∃ cs, H[b]? = some (.cells cs) ∧ off + n ≤ cs.length ∧ K (if ag then .agg ((cs.drop off).take n) else cs.getD off .undef)
  | _ => False
theorem rr_cell {o : Opd} {ag : Bool} {n : Nat} {K : D → Prop} : rrWp (.cell o ag n) s K = RcS ag n (s.get o) s.hp.H K := by
  unfold rrWp RcS; rfl
def RcB (ag : Bool) (n off : Nat) (B : Option Blk) (K : D → Prop) : Prop := ∃ cs, B = some (.cells cs) ∧ off + n ≤ cs.length ∧ K (if ag then .agg ((cs.drop off).take n) else cs.getD off .undef)
theorem rr_ptr {ag : Bool} {n b off : Nat} {H : List Blk} {K : D → Prop} : RcS ag n (.ptr b off) H K = RcB ag n off (H[b]?) K := propext Iff.rfl
theorem rr_T {n off : Nat} {cs : List D} {K : D → Prop} : RcB true n off (some (.cells cs)) K = (off + n ≤ cs.length ∧ K (.agg ((cs.drop off).take n))) := by simp [RcB]
theorem rr_F {n off : Nat} {cs : List D} {K : D → Prop} : RcB false n off (some (.cells cs)) K = (off + n ≤ cs.length ∧ K (cs.getD off .undef)) := by simp [RcB]
theorem rs_nil {K : List D → Prop} : rrsWp [] s K = K [] := propext Iff.rfl
theorem rs_cons {r : RR} {rs : List RR} {K : List D → Prop} : rrsWp (r :: rs) s K = rrWp r s fun d => rrsWp rs s fun ds => K (d :: ds) := propext Iff.rfl
end

/-- What an int64 holds. -/
theorem w64 {n : Int} (h1 : -9223372036854775808 ≤ n) (h2 : n ≤ 9223372036854775807) : IntKind.i64.wrap n = n := by
  rw [IntKind.wrap_i64]
  omega

attribute [go_sem] e_nil e_step e_guard f_nil f_step f_guard g_tt g_tf g_ft g_ff g_sk h_tt h_tf h_ft h_ff h_sk o_mv p_mv o_pickT o_pickF p_pickT p_pickF o_add o_sub o_mul o_quo o_rem o_and o_or o_xor o_shl o_shr o_eql o_neq o_lss o_leq o_gtr o_geq p_add p_sub p_mul p_quo p_rem p_eql p_neq p_lss p_leq p_gtr p_geq o_cat o_seq o_sne o_slt p_cat p_seq p_sne p_slt o_beqF o_beqT p_beqF p_beqT o_eqA p_eqA q_eqSF q_eqST q_eqQF q_eqQT o_neg p_neg o_not p_not o_cvI p_cvI o_newb o_box o_bld p_bld q_blS q_blQ o_ldp p_ldp q_ldST q_ldSF q_ldQT q_ldQF o_ldiT o_ldiF p_ldiT p_ldiF o_stp q_stS o_fldp p_fldp o_fldi p_fldi o_fvT o_fvF p_fvT p_fvF o_ixaA p_ixaA o_ixaS p_ixaS o_ixvS p_ixvS o_slTF p_slTF o_slFT p_slFT o_slTT p_slTT o_ext p_ext o_lenA p_lenA o_lenS p_lenS o_lenL p_lenL o_lenN p_lenN o_min p_min o_max p_max q_mmS q_mmQ o_mkI p_mkI o_mkF p_mkF e_cdT e_cdF rr_slot rr_cell rr_ptr rr_T rr_F rs_nil rs_cons
attribute [go_sem] St.get St.put St.setO setK St.done lk List.map_cons List.map_nil List.getD_cons_zero List.getD_cons_succ List.set_cons_zero List.set_cons_succ List.getElem?_cons_zero List.getElem?_cons_succ List.length_cons List.length_nil List.nil_append List.cons_append List.drop_zero List.drop_succ_cons List.take_zero List.take_succ_cons List.drop_nil List.take_nil D.isVal D.cells fillL setL eqDs eqD foldI Nat.succ_eq_add_one Nat.le_refl Nat.zero_add Nat.add_zero Int.toNat_natCast ite_true ite_false ne_eq not_false_eq_true not_true_eq_false true_and and_true and_self Bool.false_eq_true Bool.not_true Bool.not_false Bool.and_true Bool.true_and decide_eq_true_eq oneOrTup D.closed D.closedL D.er D.erL

section
variable {P P' : Mod} {C : Cfg} {oc : OC} {args : List Opd} {dst : Dst} {r : List RO} {K : St → Prop} {s s' : St} {g : Opd} {want ag neg : Bool} {x y : RC} {b b' : D} {ds ds' : List D} {B B' : Option Blk} {off off' n bk bk' : Nat} {v v' : D} {k : IntKind} {Q : Ex → St → Prop}
/- Where simp looks: at the program, the values and the state; never at the code that is still to come. -/
@[congr] theorem cg_ops (h1 : P = P') (h2 : s = s') : opsWp P r K s = opsWp P' r K s' := by rw [h1, h2]
@[congr] theorem cg_opsQ (h1 : P = P') (h2 : s = s') : opsQ P r K s = opsQ P' r K s' := by rw [h1, h2]
@[congr] theorem cg_OpS (h1 : P = P') (h2 : ds = ds') (h3 : s = s') : OpS P oc ds dst r K s = OpS P' oc ds' dst r K s' := by rw [h1, h2, h3]
@[congr] theorem cg_OpQ (h1 : P = P') (h2 : ds = ds') (h3 : s = s') : OpQ P oc ds dst r K s = OpQ P' oc ds' dst r K s' := by rw [h1, h2, h3]
@[congr] theorem cg_GdS (h1 : P = P') (h2 : b = b') (h3 : s = s') : GdS P b g want dst oc args r K s = GdS P' b' g want dst oc args r K s' := by rw [h1, h2, h3]
@[congr] theorem cg_GdQ (h1 : P = P') (h2 : b = b') (h3 : s = s') : GdQ P b g want dst oc args r K s = GdQ P' b' g want dst oc args r K s' := by rw [h1, h2, h3]
@[congr] theorem cg_CdS (h2 : b = b') (h3 : s = s') : CdS C b g x y Q s = CdS C b' g x y Q s' := by rw [h2, h3]
@[congr] theorem cg_SWp (h3 : s = s') : SWp C x Q s = SWp C x Q s' := by rw [h3]
@[congr] theorem cg_LdS (h1 : P = P') (h2 : B = B') (h4 : off = off') (h3 : s = s') : LdS P ag n B off dst r K s = LdS P' ag n B' off' dst r K s' := by rw [h1, h2, h3, h4]
@[congr] theorem cg_LdQ (h1 : P = P') (h2 : B = B') (h4 : off = off') (h3 : s = s') : LdQ P ag n B off dst r K s = LdQ P' ag n B' off' dst r K s' := by rw [h1, h2, h3, h4]
@[congr] theorem cg_StS (h1 : P = P') (h2 : B = B') (h5 : bk = bk') (h4 : off = off') (h6 : v = v') (h3 : s = s') : StS P n B bk off v dst r K s = StS P' n B' bk' off' v' dst r K s' := by rw [h1, h2, h3, h4, h5, h6]
end
end GoV
