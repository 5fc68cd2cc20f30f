/- The engine, part r: rules by which simp evaluates a row of operations. Own work; no program in sight. -/
import Derived.Test.YtiodnobmnfjdlaaDoorEp
import Derived.Test.YtiodnobmnfjdlaaDoorEo
set_option linter.unusedSimpArgs false
namespace GoV
open Go

/-- One operation at evaluated operands, then the rest. -/
def OpS (P : Mod) (oc : OC) (ds : List D) (dst : Dst) (r : List RO) (K : St → Prop) (s : St) : Prop :=
  OcWp P oc ds s.hp fun d hp => opsWp P r K ({ s with hp := hp }.put dst d)

/-- One guarded operation at its evaluated guard. -/
def GdS (P : Mod) (b : D) (g : Opd) (want : Bool) (dst : Dst) (oc : OC) (args : List Opd) (r : List RO) (K : St → Prop) (s : St) : Prop :=
  match b with
  | .bool b => (b = want → opsWp P (⟨dst, oc, args, none⟩ :: r) K (s.setO g (.bool want))) ∧ (b = (!want) → opsWp P r K ((s.setO g (.bool (!want))).put dst .skip))
  | .skip => opsWp P r K (s.put dst .skip)
  | _ => False

/-- The same in a region that draws. -/
def OpQ (P : Mod) (oc : OC) (ds : List D) (dst : Dst) (rq : List (RO × Bool)) (K : St → Prop) (s : St) : Prop :=
  quietWp P oc ds s.hp fun d => opsQ P rq K (s.put dst d)

def GdQ (P : Mod) (qf : Bool) (b : D) (g : Opd) (want : Bool) (dst : Dst) (oc : OC) (args : List Opd) (rq : List (RO × Bool)) (K : St → Prop) (s : St) : Prop :=
  match b with
  | .bool b => (b = want → opsQ P ((⟨dst, oc, args, none⟩, qf) :: rq) K (s.setO g (.bool want))) ∧ (b = (!want) → opsQ P rq K ((s.setO g (.bool (!want))).put dst .skip))
  | .skip => opsQ P rq K (s.put dst .skip)
  | _ => False

/-- A call in a region that draws where nothing else looks at the store. -/
def OpC (P : Mod) (oc : OC) (ds : List D) (dst : Dst) (rq : List (RO × Bool)) (K : St → Prop) (s : St) : Prop :=
  detWp P oc ds s.hp fun d hp => opsQ P rq K ({ s with hp := hp }.put dst d)

/-- A load at what a block holds. -/
def LdS (P : Mod) (ag : Bool) (n : Nat) (B : Option Blk) (off : Nat) (dst : Dst) (r : List RO) (K : St → Prop) (s : St) : Prop :=
  ∃ B' cs, B = some B' ∧ B'.csq = some cs ∧ off + n ≤ cs.length ∧ opsWp P r K (s.put dst (if ag then .agg ((cs.drop off).take n) else cs.getD off .undef))
def LdQ (P : Mod) (ag : Bool) (n : Nat) (B : Option Blk) (off : Nat) (dst : Dst) (rq : List (RO × Bool)) (K : St → Prop) (s : St) : Prop :=
  ∃ B' cs, B = some B' ∧ B'.csq = some cs ∧ off + n ≤ cs.length ∧ opsQ P rq K (s.put dst (if ag then .agg ((cs.drop off).take n) else cs.getD off .undef))
def StS (P : Mod) (n : Nat) (B : Option Blk) (b off : Nat) (v : D) (dst : Dst) (r : List RO) (K : St → Prop) (s : St) : Prop :=
  ∃ B' cs, B = some B' ∧ B'.csq = some cs ∧ v.isVal = true ∧ v.cells.length = n ∧ off + n ≤ cs.length ∧ opsWp P r K ({ s with hp := { s.hp with H := s.hp.H.set b (B'.putc (setL cs off v.cells)) } }.put dst .skip)
/-- A struct or an array out of its parts. -/
def BlS (P : Mod) (cs : Option (List D)) (dst : Dst) (r : List RO) (K : St → Prop) (s : St) : Prop := ∃ c, cs = some c ∧ opsWp P r K (s.put dst (.agg c))
def BlQ (P : Mod) (cs : Option (List D)) (dst : Dst) (rq : List (RO × Bool)) (K : St → Prop) (s : St) : Prop := ∃ c, cs = some c ∧ opsQ P rq K (s.put dst (.agg c))
def EqS (P : Mod) (neg : Bool) (b : Option Bool) (dst : Dst) (r : List RO) (K : St → Prop) (s : St) : Prop := ∃ c, b = some c ∧ opsWp P r K (s.put dst (.bool (if neg then !c else c)))
def EqQ (P : Mod) (neg : Bool) (b : Option Bool) (dst : Dst) (rq : List (RO × Bool)) (K : St → Prop) (s : St) : Prop := ∃ c, b = some c ∧ opsQ P rq K (s.put dst (.bool (if neg then !c else c)))
def LgS (P : Mod) (ag : Bool) (n : Nat) (V : Option Tv) (m off : Nat) (dst : Dst) (r : List RO) (K : St → Prop) (s : St) : Prop :=
  ∃ k cs, V = some (.chg k cs) ∧ cs.length = m * k ∧ off + n ≤ cs.length ∧ opsWp P r K (s.put dst (if ag then .agg ((cs.drop off).take n) else cs.getD off .undef))
def LgQ (P : Mod) (ag : Bool) (n : Nat) (V : Option Tv) (m off : Nat) (dst : Dst) (rq : List (RO × Bool)) (K : St → Prop) (s : St) : Prop :=
  ∃ k cs, V = some (.chg k cs) ∧ cs.length = m * k ∧ off + n ≤ cs.length ∧ opsQ P rq K (s.put dst (if ag then .agg ((cs.drop off).take n) else cs.getD off .undef))
def SgS (P : Mod) (n : Nat) (V : Option Tv) (t m off : Nat) (v : D) (dst : Dst) (r : List RO) (K : St → Prop) (s : St) : Prop :=
  ∃ k cs, V = some (.chg k cs) ∧ cs.length = m * k ∧ v.isVal = true ∧ v.cells.length = n ∧ off + n ≤ cs.length ∧ opsWp P r K ({ s with hp := { s.hp with tk := s.hp.tk.set t (.chg k (setL cs off v.cells)) } }.put dst .skip)
def MmS (P : Mod) (k : IntKind) (b : Option Int) (dst : Dst) (r : List RO) (K : St → Prop) (s : St) : Prop := ∃ c, b = some c ∧ opsWp P r K (s.put dst (.int k c))
def MmQ (P : Mod) (k : IntKind) (b : Option Int) (dst : Dst) (rq : List (RO × Bool)) (K : St → Prop) (s : St) : Prop := ∃ c, b = some c ∧ opsQ P rq K (s.put dst (.int k c))

section
variable {P : Mod} {oc : OC} {args : List Opd} {dst : Dst} {r : List RO} {rq : List (RO × Bool)} {qf : Bool} {K : St → Prop} {s : St} {g : Opd} {want : Bool} {k k' : IntKind} {a b : Int} {x y : D} {ds : List D}

theorem e_nil : opsWp P [] K s = K s := propext Iff.rfl
theorem e_step : opsWp P (⟨dst, oc, args, none⟩ :: r) K s = OpS P oc (args.map s.get) dst r K s := propext Iff.rfl
theorem e_guard : opsWp P (⟨dst, oc, args, some (g, want)⟩ :: r) K s = GdS P (s.get g) g want dst oc args r K s := by
  simp only [opsWp, headWp, GdS]
  cases s.get g <;> simp only [opsWp, headWp, setO_hp]
theorem f_nil : opsQ P [] K s = K s := propext Iff.rfl
theorem f_step : opsQ P ((⟨dst, oc, args, none⟩, true) :: rq) K s = OpQ P oc (args.map s.get) dst rq K s := propext Iff.rfl
theorem f_stepD : opsQ P ((⟨dst, oc, args, none⟩, false) :: rq) K s = if isCall oc = true then OpC P oc (args.map s.get) dst rq K s else OpS P oc (args.map s.get) dst [] (opsQ P rq K) s := by
  split
  · rfl
  · rename_i hc
    show detWp _ _ _ _ _ = _
    rw [det_op (by simpa using hc)]; rfl
theorem isCall_call : isCall .call = true := rfl
theorem f_guard : opsQ P ((⟨dst, oc, args, some (g, want)⟩, qf) :: rq) K s = GdQ P qf (s.get g) g want dst oc args rq K s := by
  simp only [opsQ, headQ, GdQ]
  cases s.get g <;> simp only [opsQ, headQ, setO_hp]

theorem g_tt : GdS P (.bool true) g true dst oc args r K s = opsWp P (⟨dst, oc, args, none⟩ :: r) K (s.setO g (.bool true)) := by simp [GdS]
theorem g_tf : GdS P (.bool true) g false dst oc args r K s = opsWp P r K ((s.setO g (.bool true)).put dst .skip) := by simp [GdS]
theorem g_ft : GdS P (.bool false) g true dst oc args r K s = opsWp P r K ((s.setO g (.bool false)).put dst .skip) := by simp [GdS]
theorem g_ff : GdS P (.bool false) g false dst oc args r K s = opsWp P (⟨dst, oc, args, none⟩ :: r) K (s.setO g (.bool false)) := by simp [GdS]
theorem g_sk : GdS P .skip g want dst oc args r K s = opsWp P r K (s.put dst .skip) := propext Iff.rfl
theorem h_tt : GdQ P qf (.bool true) g true dst oc args rq K s = opsQ P ((⟨dst, oc, args, none⟩, qf) :: rq) K (s.setO g (.bool true)) := by simp [GdQ]
theorem h_tf : GdQ P qf (.bool true) g false dst oc args rq K s = opsQ P rq K ((s.setO g (.bool true)).put dst .skip) := by simp [GdQ]
theorem h_ft : GdQ P qf (.bool false) g true dst oc args rq K s = opsQ P rq K ((s.setO g (.bool false)).put dst .skip) := by simp [GdQ]
theorem h_ff : GdQ P qf (.bool false) g false dst oc args rq K s = opsQ P ((⟨dst, oc, args, none⟩, qf) :: rq) K (s.setO g (.bool false)) := by simp [GdQ]
theorem h_sk : GdQ P qf .skip g want dst oc args rq K s = opsQ P rq K (s.put dst .skip) := propext Iff.rfl

/-- A guard that isn't known: both ways. -/
theorem gd_split {c : Bool} (h1 : c = true → GdS P (.bool true) g want dst oc args r K s) (h2 : c = false → GdS P (.bool false) g want dst oc args r K s) : GdS P (.bool c) g want dst oc args r K s := by
  cases c
  · exact h2 rfl
  · exact h1 rfl
theorem gq_split {c : Bool} (h1 : c = true → GdQ P qf (.bool true) g want dst oc args rq K s) (h2 : c = false → GdQ P qf (.bool false) g want dst oc args rq K s) : GdQ P qf (.bool c) g want dst oc args rq K s := by
  cases c
  · exact h2 rfl
  · exact h1 rfl

theorem o_mv : OpS P .mv [x] dst r K s = opsWp P r K (s.put dst x) := propext Iff.rfl
theorem p_mv : OpQ P .mv [x] dst rq K s = opsQ P rq K (s.put dst x) := by simp [OpQ, quietWp, isCall, opWp]
theorem o_nckP {bk o : Nat} : OpS P .nck [.ptr bk o] dst r K s = opsWp P r K (s.put dst (.ptr bk o)) := by simp [OpS, OcWp, isCall, opWp]
theorem p_nckP {bk o : Nat} : OpQ P .nck [.ptr bk o] dst rq K s = opsQ P rq K (s.put dst (.ptr bk o)) := by simp [OpQ, quietWp, isCall, opWp]
theorem o_nckI {cs : List D} : OpS P .nck [.ip cs] dst r K s = opsWp P r K (s.put dst (.ip cs)) := by simp [OpS, OcWp, isCall, opWp]
theorem p_nckI {cs : List D} : OpQ P .nck [.ip cs] dst rq K s = opsQ P rq K (s.put dst (.ip cs)) := by simp [OpQ, quietWp, isCall, opWp]
theorem o_nckG {t m o : Nat} : OpS P .nck [.gp t m o] dst r K s = opsWp P r K (s.put dst (.gp t m o)) := by simp [OpS, OcWp, isCall, opWp]
theorem p_nckG {t m o : Nat} : OpQ P .nck [.gp t m o] dst rq K s = opsQ P rq K (s.put dst (.gp t m o)) := by simp [OpQ, quietWp, isCall, opWp]
theorem o_pickT : OpS P .pick [.bool true, x, y] dst r K s = opsWp P r K (s.put dst x) := by simp [OpS, OcWp, isCall, opWp]
theorem o_pickF : OpS P .pick [.bool false, x, y] dst r K s = opsWp P r K (s.put dst y) := by simp [OpS, OcWp, isCall, opWp]
theorem p_pickT : OpQ P .pick [.bool true, x, y] dst rq K s = opsQ P rq K (s.put dst x) := by simp [OpQ, quietWp, isCall, opWp]
theorem p_pickF : OpQ P .pick [.bool false, x, y] dst rq K s = opsQ P rq K (s.put dst y) := by simp [OpQ, quietWp, isCall, opWp]
theorem o_add : OpS P (.bin .add) [.int k a, .int k b] dst r K s = opsWp P r K (s.put dst (.int k (k.wrap (a + b)))) := by simp [OpS, OcWp, isCall, opWp, binWp]
theorem o_sub : OpS P (.bin .sub) [.int k a, .int k b] dst r K s = opsWp P r K (s.put dst (.int k (k.wrap (a - b)))) := by simp [OpS, OcWp, isCall, opWp, binWp]
theorem o_mul : OpS P (.bin .mul) [.int k a, .int k b] dst r K s = opsWp P r K (s.put dst (.int k (k.wrap (a * b)))) := by simp [OpS, OcWp, isCall, opWp, binWp]
theorem o_quo : OpS P (.bin .quo) [.int k a, .int k b] dst r K s = (b ≠ 0 ∧ opsWp P r K (s.put dst (.int k (k.wrap (a.tdiv b))))) := by simp [OpS, OcWp, isCall, opWp, binWp]
theorem o_rem : OpS P (.bin .rem) [.int k a, .int k b] dst r K s = (b ≠ 0 ∧ opsWp P r K (s.put dst (.int k (a.tmod b)))) := by simp [OpS, OcWp, isCall, opWp, binWp]
theorem o_and : OpS P (.bin .and) [.int k a, .int k b] dst r K s = opsWp P r K (s.put dst (.int k (bitsV .and k a b))) := by simp [OpS, OcWp, isCall, opWp, binWp]
theorem o_or : OpS P (.bin .or) [.int k a, .int k b] dst r K s = opsWp P r K (s.put dst (.int k (bitsV .or k a b))) := by simp [OpS, OcWp, isCall, opWp, binWp]
theorem o_xor : OpS P (.bin .xor) [.int k a, .int k b] dst r K s = opsWp P r K (s.put dst (.int k (bitsV .xor k a b))) := by simp [OpS, OcWp, isCall, opWp, binWp]
theorem o_shl : OpS P (.bin .shl) [.int k a, .int k' b] dst r K s = (0 ≤ b ∧ opsWp P r K (s.put dst (.int k (k.wrap (a * 2 ^ (min b.toNat k.bits)))))) := by simp [OpS, OcWp, isCall, opWp, binWp]
theorem o_shr : OpS P (.bin .shr) [.int k a, .int k' b] dst r K s = (0 ≤ b ∧ opsWp P r K (s.put dst (.int k (a.fdiv (2 ^ (min b.toNat k.bits)))))) := by simp [OpS, OcWp, isCall, opWp, binWp]
theorem o_eql : OpS P (.bin .eql) [.int k a, .int k b] dst r K s = opsWp P r K (s.put dst (.bool (a == b))) := by simp [OpS, OcWp, isCall, opWp, binWp]
theorem o_neq : OpS P (.bin .neq) [.int k a, .int k b] dst r K s = opsWp P r K (s.put dst (.bool (a != b))) := by simp [OpS, OcWp, isCall, opWp, binWp]
theorem o_lss : OpS P (.bin .lss) [.int k a, .int k b] dst r K s = opsWp P r K (s.put dst (.bool (decide (a < b)))) := by simp [OpS, OcWp, isCall, opWp, binWp]
theorem o_leq : OpS P (.bin .leq) [.int k a, .int k b] dst r K s = opsWp P r K (s.put dst (.bool (decide (a ≤ b)))) := by simp [OpS, OcWp, isCall, opWp, binWp]
theorem o_gtr : OpS P (.bin .gtr) [.int k a, .int k b] dst r K s = opsWp P r K (s.put dst (.bool (decide (b < a)))) := by simp [OpS, OcWp, isCall, opWp, binWp]
theorem o_geq : OpS P (.bin .geq) [.int k a, .int k b] dst r K s = opsWp P r K (s.put dst (.bool (decide (b ≤ a)))) := by simp [OpS, OcWp, isCall, opWp, binWp]
theorem p_add : OpQ P (.bin .add) [.int k a, .int k b] dst rq K s = opsQ P rq K (s.put dst (.int k (k.wrap (a + b)))) := by simp [OpQ, quietWp, isCall, opWp, binWp]
theorem p_sub : OpQ P (.bin .sub) [.int k a, .int k b] dst rq K s = opsQ P rq K (s.put dst (.int k (k.wrap (a - b)))) := by simp [OpQ, quietWp, isCall, opWp, binWp]
theorem p_mul : OpQ P (.bin .mul) [.int k a, .int k b] dst rq K s = opsQ P rq K (s.put dst (.int k (k.wrap (a * b)))) := by simp [OpQ, quietWp, isCall, opWp, binWp]
theorem p_quo : OpQ P (.bin .quo) [.int k a, .int k b] dst rq K s = (b ≠ 0 ∧ opsQ P rq K (s.put dst (.int k (k.wrap (a.tdiv b))))) := by simp [OpQ, quietWp, isCall, opWp, binWp]
theorem p_rem : OpQ P (.bin .rem) [.int k a, .int k b] dst rq K s = (b ≠ 0 ∧ opsQ P rq K (s.put dst (.int k (a.tmod b)))) := by simp [OpQ, quietWp, isCall, opWp, binWp]
theorem p_eql : OpQ P (.bin .eql) [.int k a, .int k b] dst rq K s = opsQ P rq K (s.put dst (.bool (a == b))) := by simp [OpQ, quietWp, isCall, opWp, binWp]
theorem p_neq : OpQ P (.bin .neq) [.int k a, .int k b] dst rq K s = opsQ P rq K (s.put dst (.bool (a != b))) := by simp [OpQ, quietWp, isCall, opWp, binWp]
theorem p_lss : OpQ P (.bin .lss) [.int k a, .int k b] dst rq K s = opsQ P rq K (s.put dst (.bool (decide (a < b)))) := by simp [OpQ, quietWp, isCall, opWp, binWp]
theorem p_leq : OpQ P (.bin .leq) [.int k a, .int k b] dst rq K s = opsQ P rq K (s.put dst (.bool (decide (a ≤ b)))) := by simp [OpQ, quietWp, isCall, opWp, binWp]
theorem p_gtr : OpQ P (.bin .gtr) [.int k a, .int k b] dst rq K s = opsQ P rq K (s.put dst (.bool (decide (b < a)))) := by simp [OpQ, quietWp, isCall, opWp, binWp]
theorem p_geq : OpQ P (.bin .geq) [.int k a, .int k b] dst rq K s = opsQ P rq K (s.put dst (.bool (decide (b ≤ a)))) := by simp [OpQ, quietWp, isCall, opWp, binWp]
theorem o_cat {u v : List UInt8} : OpS P (.bin .add) [.str u, .str v] dst r K s = (u.length + v.length ≤ 4611686018427387904 ∧ opsWp P r K (s.put dst (.str (u ++ v)))) := by simp [OpS, OcWp, isCall, opWp, binWp]
theorem o_seq {u v : List UInt8} : OpS P (.bin .eql) [.str u, .str v] dst r K s = opsWp P r K (s.put dst (.bool (u == v))) := by simp [OpS, OcWp, isCall, opWp, binWp]
theorem o_sne {u v : List UInt8} : OpS P (.bin .neq) [.str u, .str v] dst r K s = opsWp P r K (s.put dst (.bool (!(u == v)))) := by simp [OpS, OcWp, isCall, opWp, binWp]
theorem o_slt {u v : List UInt8} : OpS P (.bin .lss) [.str u, .str v] dst r K s = opsWp P r K (s.put dst (.bool (Op.bytesLess u v))) := by simp [OpS, OcWp, isCall, opWp, binWp]
theorem p_cat {u v : List UInt8} : OpQ P (.bin .add) [.str u, .str v] dst rq K s = (u.length + v.length ≤ 4611686018427387904 ∧ opsQ P rq K (s.put dst (.str (u ++ v)))) := by simp [OpQ, quietWp, isCall, opWp, binWp]
theorem p_seq {u v : List UInt8} : OpQ P (.bin .eql) [.str u, .str v] dst rq K s = opsQ P rq K (s.put dst (.bool (u == v))) := by simp [OpQ, quietWp, isCall, opWp, binWp]
theorem p_sne {u v : List UInt8} : OpQ P (.bin .neq) [.str u, .str v] dst rq K s = opsQ P rq K (s.put dst (.bool (!(u == v)))) := by simp [OpQ, quietWp, isCall, opWp, binWp]
theorem p_slt {u v : List UInt8} : OpQ P (.bin .lss) [.str u, .str v] dst rq K s = opsQ P rq K (s.put dst (.bool (Op.bytesLess u v))) := by simp [OpQ, quietWp, isCall, opWp, binWp]
theorem o_beqF {u v : Bool} : OpS P (.eqB false) [.bool u, .bool v] dst r K s = opsWp P r K (s.put dst (.bool (u == v))) := by simp [OpS, OcWp, isCall, opWp]
theorem o_beqT {u v : Bool} : OpS P (.eqB true) [.bool u, .bool v] dst r K s = opsWp P r K (s.put dst (.bool (!(u == v)))) := by simp [OpS, OcWp, isCall, opWp]
theorem p_beqF {u v : Bool} : OpQ P (.eqB false) [.bool u, .bool v] dst rq K s = opsQ P rq K (s.put dst (.bool (u == v))) := by simp [OpQ, quietWp, isCall, opWp]
theorem p_beqT {u v : Bool} : OpQ P (.eqB true) [.bool u, .bool v] dst rq K s = opsQ P rq K (s.put dst (.bool (!(u == v)))) := by simp [OpQ, quietWp, isCall, opWp]
theorem o_eqA {neg : Bool} {ks : List EK} {u v : List D} : OpS P (.eqA neg ks) [.agg u, .agg v] dst r K s = EqS P neg (eqDs ks u v) dst r K s := by simp [OpS, OcWp, isCall, opWp, EqS]
theorem p_eqA {neg : Bool} {ks : List EK} {u v : List D} : OpQ P (.eqA neg ks) [.agg u, .agg v] dst rq K s = EqQ P neg (eqDs ks u v) dst rq K s := by simp [OpQ, quietWp, isCall, opWp, EqQ]
theorem q_eqSF {c : Bool} : EqS P false (some c) dst r K s = opsWp P r K (s.put dst (.bool c)) := by simp [EqS]
theorem q_eqST {c : Bool} : EqS P true (some c) dst r K s = opsWp P r K (s.put dst (.bool (!c))) := by simp [EqS]
theorem q_eqQF {c : Bool} : EqQ P false (some c) dst rq K s = opsQ P rq K (s.put dst (.bool c)) := by simp [EqQ]
theorem q_eqQT {c : Bool} : EqQ P true (some c) dst rq K s = opsQ P rq K (s.put dst (.bool (!c))) := by simp [EqQ]
theorem o_neg : OpS P (.un .neg) [.int k a] dst r K s = opsWp P r K (s.put dst (.int k (k.wrap (0 - a)))) := by simp [OpS, OcWp, isCall, opWp, unWp]
theorem p_neg : OpQ P (.un .neg) [.int k a] dst rq K s = opsQ P rq K (s.put dst (.int k (k.wrap (0 - a)))) := by simp [OpQ, quietWp, isCall, opWp, unWp]
theorem o_not {c : Bool} : OpS P (.un .not) [.bool c] dst r K s = opsWp P r K (s.put dst (.bool (!c))) := by simp [OpS, OcWp, isCall, opWp, unWp]
theorem p_not {c : Bool} : OpQ P (.un .not) [.bool c] dst rq K s = opsQ P rq K (s.put dst (.bool (!c))) := by simp [OpQ, quietWp, isCall, opWp, unWp]
theorem o_cvI : OpS P (.cvI k) [.int k' a] dst r K s = opsWp P r K (s.put dst (.int k (k.wrap a))) := by simp [OpS, OcWp, isCall, opWp]
theorem p_cvI : OpQ P (.cvI k) [.int k' a] dst rq K s = opsQ P rq K (s.put dst (.int k (k.wrap a))) := by simp [OpQ, quietWp, isCall, opWp]
theorem o_newb {z : List D} : OpS P (.newb z) [] dst r K s = opsWp P r K ({ s with hp := { s.hp with H := s.hp.H ++ [Blk.cells z] } }.put dst (.ptr s.hp.H.length 0)) := by simp [OpS, OcWp, isCall, opWp]
theorem o_newT {z : List D} {bty : TypeId} : OpS P (.newT bty z) [] dst r K s = opsWp P r K ({ s with hp := { s.hp with H := s.hp.H ++ [Blk.tcells bty z] } }.put dst (.ptr s.hp.H.length 0)) := by simp [OpS, OcWp, isCall, opWp]
theorem o_box : OpS P .box [x] dst r K s = (x.isVal = true ∧ opsWp P r K ({ s with hp := { s.hp with H := s.hp.H ++ [Blk.cells x.cells] } }.put dst (.ptr s.hp.H.length 0))) := by simp [OpS, OcWp, isCall, opWp]
theorem o_bld {z : List D} {ps : List (Nat × Nat)} : OpS P (.bld z ps) ds dst r K s = BlS P (fillL z ps ds) dst r K s := by simp [OpS, OcWp, isCall, opWp, BlS]
theorem p_bld {z : List D} {ps : List (Nat × Nat)} : OpQ P (.bld z ps) ds dst rq K s = BlQ P (fillL z ps ds) dst rq K s := by simp [OpQ, quietWp, isCall, opWp, BlQ]
theorem q_blS {c : List D} : BlS P (some c) dst r K s = opsWp P r K (s.put dst (.agg c)) := by simp [BlS]
theorem q_blQ {c : List D} : BlQ P (some c) dst rq K s = opsQ P rq K (s.put dst (.agg c)) := by simp [BlQ]
theorem o_ldp {ag : Bool} {n bk off : Nat} : OpS P (.ld ag n) [.ptr bk off] dst r K s = LdS P ag n (s.hp.H[bk]?) off dst r K s := by simp [OpS, OcWp, isCall, opWp, LdS]
theorem p_ldp {ag : Bool} {n bk off : Nat} : OpQ P (.ld ag n) [.ptr bk off] dst rq K s = LdQ P ag n (s.hp.H[bk]?) off dst rq K s := by simp [OpQ, quietWp, isCall, opWp, LdQ]
theorem q_ldST {n off : Nat} {cs : List D} : LdS P true n (some (.cells cs)) off dst r K s = (off + n ≤ cs.length ∧ opsWp P r K (s.put dst (.agg ((cs.drop off).take n)))) := by simp [LdS, Blk.csq, Blk.putc]
theorem q_ldSTt {n off : Nat} {bty : TypeId} {cs : List D} : LdS P true n (some (.tcells bty cs)) off dst r K s = (off + n ≤ cs.length ∧ opsWp P r K (s.put dst (.agg ((cs.drop off).take n)))) := by simp [LdS, Blk.csq, Blk.putc]
theorem q_ldSF {n off : Nat} {cs : List D} : LdS P false n (some (.cells cs)) off dst r K s = (off + n ≤ cs.length ∧ opsWp P r K (s.put dst (cs.getD off .undef))) := by simp [LdS, Blk.csq, Blk.putc]
theorem q_ldSFt {n off : Nat} {bty : TypeId} {cs : List D} : LdS P false n (some (.tcells bty cs)) off dst r K s = (off + n ≤ cs.length ∧ opsWp P r K (s.put dst (cs.getD off .undef))) := by simp [LdS, Blk.csq, Blk.putc]
theorem q_ldQT {n off : Nat} {cs : List D} : LdQ P true n (some (.cells cs)) off dst rq K s = (off + n ≤ cs.length ∧ opsQ P rq K (s.put dst (.agg ((cs.drop off).take n)))) := by simp [LdQ, Blk.csq, Blk.putc]
theorem q_ldQTt {n off : Nat} {bty : TypeId} {cs : List D} : LdQ P true n (some (.tcells bty cs)) off dst rq K s = (off + n ≤ cs.length ∧ opsQ P rq K (s.put dst (.agg ((cs.drop off).take n)))) := by simp [LdQ, Blk.csq, Blk.putc]
theorem q_ldQF {n off : Nat} {cs : List D} : LdQ P false n (some (.cells cs)) off dst rq K s = (off + n ≤ cs.length ∧ opsQ P rq K (s.put dst (cs.getD off .undef))) := by simp [LdQ, Blk.csq, Blk.putc]
theorem q_ldQFt {n off : Nat} {bty : TypeId} {cs : List D} : LdQ P false n (some (.tcells bty cs)) off dst rq K s = (off + n ≤ cs.length ∧ opsQ P rq K (s.put dst (cs.getD off .undef))) := by simp [LdQ, Blk.csq, Blk.putc]
theorem o_ldiT {n : Nat} {cs : List D} : OpS P (.ld true n) [.ip cs] dst r K s = (0 < n ∧ n ≤ cs.length ∧ opsWp P r K (s.put dst (.agg (cs.take n)))) := by simp [OpS, OcWp, isCall, opWp]
theorem o_ldiF {n : Nat} {cs : List D} : OpS P (.ld false n) [.ip cs] dst r K s = (0 < n ∧ n ≤ cs.length ∧ opsWp P r K (s.put dst (cs.getD 0 .undef))) := by simp [OpS, OcWp, isCall, opWp]
theorem p_ldiT {n : Nat} {cs : List D} : OpQ P (.ld true n) [.ip cs] dst rq K s = (0 < n ∧ n ≤ cs.length ∧ opsQ P rq K (s.put dst (.agg (cs.take n)))) := by simp [OpQ, quietWp, isCall, opWp]
theorem p_ldiF {n : Nat} {cs : List D} : OpQ P (.ld false n) [.ip cs] dst rq K s = (0 < n ∧ n ≤ cs.length ∧ opsQ P rq K (s.put dst (cs.getD 0 .undef))) := by simp [OpQ, quietWp, isCall, opWp]
theorem o_stp {n bk off : Nat} : OpS P (.st n) [.ptr bk off, x] dst r K s = StS P n (s.hp.H[bk]?) bk off x dst r K s := by simp [OpS, OcWp, isCall, opWp, StS]
theorem q_stS {n bk off : Nat} {cs : List D} : StS P n (some (.cells cs)) bk off x dst r K s = (x.isVal = true ∧ x.cells.length = n ∧ off + n ≤ cs.length ∧ opsWp P r K ({ s with hp := { s.hp with H := s.hp.H.set bk (.cells (setL cs off x.cells)) } }.put dst .skip)) := by simp [StS, Blk.csq, Blk.putc]
theorem q_stSt {n bk off : Nat} {bty : TypeId} {cs : List D} : StS P n (some (.tcells bty cs)) bk off x dst r K s = (x.isVal = true ∧ x.cells.length = n ∧ off + n ≤ cs.length ∧ opsWp P r K ({ s with hp := { s.hp with H := s.hp.H.set bk (.tcells bty (setL cs off x.cells)) } }.put dst .skip)) := by simp [StS, Blk.csq, Blk.putc]
theorem o_fldp {off bk o : Nat} : OpS P (.fld off) [.ptr bk o] dst r K s = opsWp P r K (s.put dst (.ptr bk (o + off))) := by simp [OpS, OcWp, isCall, opWp]
theorem p_fldp {off bk o : Nat} : OpQ P (.fld off) [.ptr bk o] dst rq K s = opsQ P rq K (s.put dst (.ptr bk (o + off))) := by simp [OpQ, quietWp, isCall, opWp]
theorem o_fldi {off : Nat} {cs : List D} : OpS P (.fld off) [.ip cs] dst r K s = opsWp P r K (s.put dst (.ip (cs.drop off))) := by simp [OpS, OcWp, isCall, opWp]
theorem p_fldi {off : Nat} {cs : List D} : OpQ P (.fld off) [.ip cs] dst rq K s = opsQ P rq K (s.put dst (.ip (cs.drop off))) := by simp [OpQ, quietWp, isCall, opWp]
theorem o_fvT {off n : Nat} {cs : List D} : OpS P (.fv true off n) [.agg cs] dst r K s = (off + n ≤ cs.length ∧ opsWp P r K (s.put dst (.agg ((cs.drop off).take n)))) := by simp [OpS, OcWp, isCall, opWp]
theorem o_fvF {off n : Nat} {cs : List D} : OpS P (.fv false off n) [.agg cs] dst r K s = (off + n ≤ cs.length ∧ opsWp P r K (s.put dst (cs.getD off .undef))) := by simp [OpS, OcWp, isCall, opWp]
theorem p_fvT {off n : Nat} {cs : List D} : OpQ P (.fv true off n) [.agg cs] dst rq K s = (off + n ≤ cs.length ∧ opsQ P rq K (s.put dst (.agg ((cs.drop off).take n)))) := by simp [OpQ, quietWp, isCall, opWp]
theorem p_fvF {off n : Nat} {cs : List D} : OpQ P (.fv false off n) [.agg cs] dst rq K s = (off + n ≤ cs.length ∧ opsQ P rq K (s.put dst (cs.getD off .undef))) := by simp [OpQ, quietWp, isCall, opWp]
theorem o_ixaA {len n bk o : Nat} : OpS P (.ixaA len n) [.ptr bk o, .int k a] dst r K s = (0 ≤ a ∧ a < len ∧ opsWp P r K (s.put dst (.ptr bk (o + a.toNat * n)))) := by simp [OpS, OcWp, isCall, opWp]
theorem p_ixaA {len n bk o : Nat} : OpQ P (.ixaA len n) [.ptr bk o, .int k a] dst rq K s = (0 ≤ a ∧ a < len ∧ opsQ P rq K (s.put dst (.ptr bk (o + a.toNat * n)))) := by simp [OpQ, quietWp, isCall, opWp]
theorem o_ixaS {n : Nat} {es : List D} {own : Own} : OpS P (.ixaS n) [.slice es own, .int k a] dst r K s = (0 ≤ a ∧ a < es.length ∧ (es.getD a.toNat .undef).isVal = true ∧ (es.getD a.toNat .undef).cells.length = n ∧ opsWp P r K (s.put dst (.ip (es.getD a.toNat .undef).cells))) := by simp [OpS, OcWp, isCall, opWp]
theorem p_ixaS {n : Nat} {es : List D} {own : Own} : OpQ P (.ixaS n) [.slice es own, .int k a] dst rq K s = (0 ≤ a ∧ a < es.length ∧ (es.getD a.toNat .undef).isVal = true ∧ (es.getD a.toNat .undef).cells.length = n ∧ opsQ P rq K (s.put dst (.ip (es.getD a.toNat .undef).cells))) := by simp [OpQ, quietWp, isCall, opWp]
theorem o_ixvS {u : List UInt8} : OpS P .ixvS [.str u, .int k a] dst r K s = (0 ≤ a ∧ a < u.length ∧ opsWp P r K (s.put dst (.int .u8 (u.getD a.toNat 0).toNat))) := by simp [OpS, OcWp, isCall, opWp]
theorem p_ixvS {u : List UInt8} : OpQ P .ixvS [.str u, .int k a] dst rq K s = (0 ≤ a ∧ a < u.length ∧ opsQ P rq K (s.put dst (.int .u8 (u.getD a.toNat 0).toNat))) := by simp [OpQ, quietWp, isCall, opWp]
theorem o_slTF {u : List UInt8} : OpS P (.slcS true false) [.str u, .int k a] dst r K s = (0 ≤ a ∧ a ≤ u.length ∧ opsWp P r K (s.put dst (.str (u.drop a.toNat)))) := by simp [OpS, OcWp, isCall, opWp]
theorem p_slTF {u : List UInt8} : OpQ P (.slcS true false) [.str u, .int k a] dst rq K s = (0 ≤ a ∧ a ≤ u.length ∧ opsQ P rq K (s.put dst (.str (u.drop a.toNat)))) := by simp [OpQ, quietWp, isCall, opWp]
theorem o_slFT {u : List UInt8} : OpS P (.slcS false true) [.str u, .int k a] dst r K s = (0 ≤ a ∧ a ≤ u.length ∧ opsWp P r K (s.put dst (.str (u.take a.toNat)))) := by simp [OpS, OcWp, isCall, opWp]
theorem p_slFT {u : List UInt8} : OpQ P (.slcS false true) [.str u, .int k a] dst rq K s = (0 ≤ a ∧ a ≤ u.length ∧ opsQ P rq K (s.put dst (.str (u.take a.toNat)))) := by simp [OpQ, quietWp, isCall, opWp]
theorem o_slTT {u : List UInt8} : OpS P (.slcS true true) [.str u, .int k a, .int k' b] dst r K s = (0 ≤ a ∧ a ≤ b ∧ b ≤ u.length ∧ opsWp P r K (s.put dst (.str ((u.take b.toNat).drop a.toNat)))) := by simp [OpS, OcWp, isCall, opWp]
theorem p_slTT {u : List UInt8} : OpQ P (.slcS true true) [.str u, .int k a, .int k' b] dst rq K s = (0 ≤ a ∧ a ≤ b ∧ b ≤ u.length ∧ opsQ P rq K (s.put dst (.str ((u.take b.toNat).drop a.toNat)))) := by simp [OpQ, quietWp, isCall, opWp]
theorem o_ext {i : Nat} : OpS P (.ext i) [.tup ds] dst r K s = (i < ds.length ∧ opsWp P r K (s.put dst (ds.getD i .undef))) := by simp [OpS, OcWp, isCall, opWp]
theorem p_ext {i : Nat} : OpQ P (.ext i) [.tup ds] dst rq K s = (i < ds.length ∧ opsQ P rq K (s.put dst (ds.getD i .undef))) := by simp [OpQ, quietWp, isCall, opWp]
theorem o_lenA {n : Nat} : OpS P (.lenA n) ds dst r K s = opsWp P r K (s.put dst (.int .i64 n)) := by simp [OpS, OcWp, isCall, opWp]
theorem p_lenA {n : Nat} : OpQ P (.lenA n) ds dst rq K s = opsQ P rq K (s.put dst (.int .i64 n)) := by simp [OpQ, quietWp, isCall, opWp]
theorem o_lenS {u : List UInt8} : OpS P .lenS [.str u] dst r K s = opsWp P r K (s.put dst (.int .i64 u.length)) := by simp [OpS, OcWp, isCall, opWp]
theorem p_lenS {u : List UInt8} : OpQ P .lenS [.str u] dst rq K s = opsQ P rq K (s.put dst (.int .i64 u.length)) := by simp [OpQ, quietWp, isCall, opWp]
theorem o_lenL {es : List D} {own : Own} : OpS P .lenL [.slice es own] dst r K s = opsWp P r K (s.put dst (.int .i64 es.length)) := by simp [OpS, OcWp, isCall, opWp]
theorem p_lenL {es : List D} {own : Own} : OpQ P .lenL [.slice es own] dst rq K s = opsQ P rq K (s.put dst (.int .i64 es.length)) := by simp [OpQ, quietWp, isCall, opWp]
theorem o_lenN : OpS P .lenL [.lit (.slice none 0 0)] dst r K s = opsWp P r K (s.put dst (.int .i64 0)) := by simp [OpS, OcWp, isCall, opWp]
theorem p_lenN : OpQ P .lenL [.lit (.slice none 0 0)] dst rq K s = opsQ P rq K (s.put dst (.int .i64 0)) := by simp [OpQ, quietWp, isCall, opWp]
theorem o_min : OpS P .minI (.int k a :: ds) dst r K s = MmS P k (foldI (fun a b => if b < a then b else a) k a ds) dst r K s := by simp [OpS, OcWp, isCall, opWp, MmS]
theorem p_min : OpQ P .minI (.int k a :: ds) dst rq K s = MmQ P k (foldI (fun a b => if b < a then b else a) k a ds) dst rq K s := by simp [OpQ, quietWp, isCall, opWp, MmQ]
theorem o_max : OpS P .maxI (.int k a :: ds) dst r K s = MmS P k (foldI (fun a b => if b > a then b else a) k a ds) dst r K s := by simp [OpS, OcWp, isCall, opWp, MmS]
theorem p_max : OpQ P .maxI (.int k a :: ds) dst rq K s = MmQ P k (foldI (fun a b => if b > a then b else a) k a ds) dst rq K s := by simp [OpQ, quietWp, isCall, opWp, MmQ]
theorem q_mmS : MmS P k (some a) dst r K s = opsWp P r K (s.put dst (.int k a)) := by simp [MmS]
theorem q_mmQ : MmQ P k (some a) dst rq K s = opsQ P rq K (s.put dst (.int k a)) := by simp [MmQ]
theorem o_mkI {t : Nat} : OpS P (.mkI t) [x] dst r K s = opsWp P r K (s.put dst (.iface t x)) := by simp [OpS, OcWp, isCall, opWp]
theorem p_mkI {t : Nat} : OpQ P (.mkI t) [x] dst rq K s = opsQ P rq K (s.put dst (.iface t x)) := by simp [OpQ, quietWp, isCall, opWp]
theorem o_mkF {f : Fn} {n : Nat} : OpS P (.mkF f n) ds dst r K s = opsWp P r K (s.put dst (.fn f (ds.take n) (ds.drop n))) := by simp [OpS, OcWp, isCall, opWp]
theorem p_mkF {f : Fn} {n : Nat} : OpQ P (.mkF f n) ds dst rq K s = opsQ P rq K (s.put dst (.fn f (ds.take n) (ds.drop n))) := by simp [OpQ, quietWp, isCall, opWp]


theorem o_cvS {u : List UInt8} : OpS P .cvS [.str u] dst r K s = opsWp P r K (s.put dst (.str u)) := by simp [OpS, OcWp, isCall, opWp]
theorem p_cvS {u : List UInt8} : OpQ P .cvS [.str u] dst rq K s = opsQ P rq K (s.put dst (.str u)) := by simp [OpQ, quietWp, isCall, opWp]
theorem o_lenM {bk n off len cap : Nat} : OpS P .lenL [.sl bk n off len cap] dst r K s = opsWp P r K (s.put dst (.int .i64 len)) := by simp [OpS, OcWp, isCall, opWp]
theorem p_lenM {bk n off len cap : Nat} : OpQ P .lenL [.sl bk n off len cap] dst rq K s = opsQ P rq K (s.put dst (.int .i64 len)) := by simp [OpQ, quietWp, isCall, opWp]
theorem o_lenG {t n : Nat} : OpS P .lenL [.gs t n] dst r K s = opsWp P r K (s.put dst (.int .i64 n)) := by simp [OpS, OcWp, isCall, opWp]
theorem p_lenG {t n : Nat} : OpQ P .lenL [.gs t n] dst rq K s = opsQ P rq K (s.put dst (.int .i64 n)) := by simp [OpQ, quietWp, isCall, opWp]
theorem o_ixaM {n bk n' off len cap : Nat} : OpS P (.ixaS n) [.sl bk n' off len cap, .int k a] dst r K s = (0 ≤ a ∧ a < len ∧ len ≤ cap ∧ n' = n ∧ opsWp P r K (s.put dst (.ptr bk (off + a.toNat * n)))) := by simp [OpS, OcWp, isCall, opWp]
theorem p_ixaM {n bk n' off len cap : Nat} : OpQ P (.ixaS n) [.sl bk n' off len cap, .int k a] dst rq K s = (0 ≤ a ∧ a < len ∧ len ≤ cap ∧ n' = n ∧ opsQ P rq K (s.put dst (.ptr bk (off + a.toNat * n)))) := by simp [OpQ, quietWp, isCall, opWp]
theorem o_ixaG {n t m : Nat} : OpS P (.ixaS n) [.gs t m, .int k a] dst r K s = (0 ≤ a ∧ a < m ∧ opsWp P r K (s.put dst (.gp t m (a.toNat * n)))) := by simp [OpS, OcWp, isCall, opWp]
theorem p_ixaG {n t m : Nat} : OpQ P (.ixaS n) [.gs t m, .int k a] dst rq K s = (0 ≤ a ∧ a < m ∧ opsQ P rq K (s.put dst (.gp t m (a.toNat * n)))) := by simp [OpQ, quietWp, isCall, opWp]
theorem o_fldg {off t m o : Nat} : OpS P (.fld off) [.gp t m o] dst r K s = opsWp P r K (s.put dst (.gp t m (o + off))) := by simp [OpS, OcWp, isCall, opWp]
theorem p_fldg {off t m o : Nat} : OpQ P (.fld off) [.gp t m o] dst rq K s = opsQ P rq K (s.put dst (.gp t m (o + off))) := by simp [OpQ, quietWp, isCall, opWp]
theorem o_rng {u : List UInt8} : OpS P .rngS [.str u] dst r K s = opsWp P r K ({ s with hp := { s.hp with H := s.hp.H ++ [Blk.siter u 0] } }.put dst (.ptr s.hp.H.length 0)) := by simp [OpS, OcWp, isCall, opWp]
theorem o_ldg {ag : Bool} {n t m off : Nat} : OpS P (.ld ag n) [.gp t m off] dst r K s = LgS P ag n (s.hp.tk[t]?) m off dst r K s := by simp [OpS, OcWp, isCall, opWp, LgS]
theorem p_ldg {ag : Bool} {n t m off : Nat} : OpQ P (.ld ag n) [.gp t m off] dst rq K s = LgQ P ag n (s.hp.tk[t]?) m off dst rq K s := by simp [OpQ, quietWp, isCall, opWp, LgQ]
theorem q_lgST {n k' m off : Nat} {cs : List D} : LgS P true n (some (.chg k' cs)) m off dst r K s = (cs.length = m * k' ∧ off + n ≤ cs.length ∧ opsWp P r K (s.put dst (.agg ((cs.drop off).take n)))) := by
  simp only [LgS, Option.some.injEq, Tv.chg.injEq, if_true]
  exact propext ⟨fun ⟨_, _, ⟨h1, h2⟩, h3, h4, h5⟩ => by subst h1; subst h2; exact ⟨h3, h4, h5⟩, fun ⟨h3, h4, h5⟩ => ⟨_, _, ⟨rfl, rfl⟩, h3, h4, h5⟩⟩
theorem q_lgSF {n k' m off : Nat} {cs : List D} : LgS P false n (some (.chg k' cs)) m off dst r K s = (cs.length = m * k' ∧ off + n ≤ cs.length ∧ opsWp P r K (s.put dst (cs.getD off .undef))) := by
  simp only [LgS, Option.some.injEq, Tv.chg.injEq, Bool.false_eq_true, if_false]
  exact propext ⟨fun ⟨_, _, ⟨h1, h2⟩, h3, h4, h5⟩ => by subst h1; subst h2; exact ⟨h3, h4, h5⟩, fun ⟨h3, h4, h5⟩ => ⟨_, _, ⟨rfl, rfl⟩, h3, h4, h5⟩⟩
theorem q_lgQT {n k' m off : Nat} {cs : List D} : LgQ P true n (some (.chg k' cs)) m off dst rq K s = (cs.length = m * k' ∧ off + n ≤ cs.length ∧ opsQ P rq K (s.put dst (.agg ((cs.drop off).take n)))) := by
  simp only [LgQ, Option.some.injEq, Tv.chg.injEq, if_true]
  exact propext ⟨fun ⟨_, _, ⟨h1, h2⟩, h3, h4, h5⟩ => by subst h1; subst h2; exact ⟨h3, h4, h5⟩, fun ⟨h3, h4, h5⟩ => ⟨_, _, ⟨rfl, rfl⟩, h3, h4, h5⟩⟩
theorem q_lgQF {n k' m off : Nat} {cs : List D} : LgQ P false n (some (.chg k' cs)) m off dst rq K s = (cs.length = m * k' ∧ off + n ≤ cs.length ∧ opsQ P rq K (s.put dst (cs.getD off .undef))) := by
  simp only [LgQ, Option.some.injEq, Tv.chg.injEq, Bool.false_eq_true, if_false]
  exact propext ⟨fun ⟨_, _, ⟨h1, h2⟩, h3, h4, h5⟩ => by subst h1; subst h2; exact ⟨h3, h4, h5⟩, fun ⟨h3, h4, h5⟩ => ⟨_, _, ⟨rfl, rfl⟩, h3, h4, h5⟩⟩
theorem o_stg {n t m off : Nat} : OpS P (.st n) [.gp t m off, x] dst r K s = SgS P n (s.hp.tk[t]?) t m off x dst r K s := by simp [OpS, OcWp, isCall, opWp, SgS]
theorem q_sgS {n t m off k' : Nat} {cs : List D} : SgS P n (some (.chg k' cs)) t m off x dst r K s = (cs.length = m * k' ∧ x.isVal = true ∧ x.cells.length = n ∧ off + n ≤ cs.length ∧ opsWp P r K ({ s with hp := { s.hp with tk := s.hp.tk.set t (.chg k' (setL cs off x.cells)) } }.put dst .skip)) := by
  simp only [SgS, Option.some.injEq, Tv.chg.injEq]
  exact propext ⟨fun ⟨_, _, ⟨h1, h2⟩, h3⟩ => by subst h1; subst h2; exact h3, fun h3 => ⟨_, _, ⟨rfl, rfl⟩, h3⟩⟩

/-! Operations with a choice, or with conditions on lists: rules that are applied, not rewritten with. -/
section
variable {es xs : List D} {n bytes : Nat} {ety : TypeId}

theorem s_bsl (he : elemsK n ds = true) (hl : ds.length * n ≤ 16777216) (hc : D.closedL ds = true) (h : opsWp P r K (s.put dst (.slice (D.erL ds) .full))) : OpS P (.bsl n) ds dst r K s := by
  simp only [OpS, OcWp, isCall, Bool.false_eq_true, if_false, opWp]; exact ⟨he, hl, .inl ⟨hc, h⟩⟩
theorem t_bsl (he : elemsK n ds = true) (hl : ds.length * n ≤ 16777216) (hc : D.closedL ds = true) (h : opsQ P rq K (s.put dst (.slice (D.erL ds) .full))) : OpQ P (.bsl n) ds dst rq K s := by
  simp only [OpQ, quietWp, isCall, Bool.false_eq_true, if_false, opWp]; exact ⟨he, hl, .inl ⟨hc, by trivial, h⟩⟩
theorem s_bslM (he : elemsK n ds = true) (hl : ds.length * n ≤ 16777216) (h : opsWp P r K ({ s with hp := { s.hp with H := s.hp.H ++ [Blk.cells (flatD ds)] } }.put dst (.sl s.hp.H.length n 0 ds.length ds.length))) : OpS P (.bsl n) ds dst r K s := by
  simp only [OpS, OcWp, isCall, Bool.false_eq_true, if_false, opWp]; exact ⟨he, hl, .inr h⟩
theorem s_mks {z : List D} (h0 : 0 ≤ a) (h1 : a ≤ b) (h2 : roomOk b.toNat bytes) (h : opsWp P r K ({ s with hp := { s.hp with H := s.hp.H ++ [Blk.cells (zeros z b.toNat)] } }.put dst (.sl s.hp.H.length n 0 a.toNat b.toNat))) : OpS P (.mks n bytes z) [.int k a, .int k' b] dst r K s := by
  simp only [OpS, OcWp, isCall, Bool.false_eq_true, if_false, opWp]; exact ⟨h0, h1, h2, .inl h⟩
theorem s_mksT {z : List D} (h0 : a = 0) (h1 : 0 ≤ b) (h2 : roomOk b.toNat bytes) (hn : 0 < n) (h : opsWp P r K ({ s with hp := { s.hp with tk := s.hp.tk ++ [Tv.per n 0] } }.put dst (.slice [] (.tok s.hp.tk.length)))) : OpS P (.mks n bytes z) [.int k a, .int k' b] dst r K s := by
  simp only [OpS, OcWp, isCall, Bool.false_eq_true, if_false, opWp]; exact ⟨by omega, by omega, h2, .inr ⟨hn, h0, .inl h⟩⟩
theorem s_mksG {z : List D} (h0 : a = 0) (h1 : 0 ≤ b) (h2 : roomOk b.toNat bytes) (hn : 0 < n) (h : opsWp P r K ({ s with hp := { s.hp with tk := s.hp.tk ++ [Tv.chg n []] } }.put dst (.gs s.hp.tk.length 0))) : OpS P (.mks n bytes z) [.int k a, .int k' b] dst r K s := by
  simp only [OpS, OcWp, isCall, Bool.false_eq_true, if_false, opWp]; exact ⟨by omega, by omega, h2, .inr ⟨hn, h0, .inr h⟩⟩
theorem s_appT {t : Nat} (he : elemsOf s.hp n x = some es) (hK : elemsK n es = true) (hc : D.closedL es = true) (hr : roomOk (xs.length + es.length) bytes) (hV : s.hp.tk[t]? = some (.per n xs.length))
    (h : opsWp P r K ({ s with hp := { s.hp with tk := s.hp.tk.set t (.per n (xs.length + es.length)) } }.put dst (.slice (xs ++ D.erL es) (.tok t)))) : OpS P (.app n bytes ety) [.slice xs (.tok t), x] dst r K s := by
  simp only [OpS, OcWp, isCall, Bool.false_eq_true, if_false, opWp]; exact ⟨es, he, hK, hr, hc, hV, h⟩
theorem s_appG {t m : Nat} {cs : List D} (he : elemsOf s.hp n x = some es) (hK : elemsK n es = true) (hr : roomOk (m + es.length) bytes) (hV : s.hp.tk[t]? = some (.chg n cs)) (hl : cs.length = m * n)
    (h : opsWp P r K ({ s with hp := { s.hp with tk := s.hp.tk.set t (.chg n (cs ++ flatD es)) } }.put dst (.gs t (m + es.length)))) : OpS P (.app n bytes ety) [.gs t m, x] dst r K s := by
  simp only [OpS, OcWp, isCall, Bool.false_eq_true, if_false, opWp]; exact ⟨es, he, hK, hr, .inl ⟨cs, hV, hl, h⟩⟩
theorem s_appB {t m : Nat} {bs u : List UInt8} (he : elemsOf s.hp n x = some es) (hu : bytesB es = some u) (hK : elemsK n es = true) (hn : n = 1) (hr : roomOk (m + es.length) bytes) (hV : s.hp.tk[t]? = some (.byt ety bs)) (hl : bs.length = m)
    (h : opsWp P r K ({ s with hp := { s.hp with tk := s.hp.tk.set t (.byt ety (bs ++ u)) } }.put dst (.gs t (m + es.length)))) : OpS P (.app n bytes ety) [.gs t m, x] dst r K s := by
  simp only [OpS, OcWp, isCall, Bool.false_eq_true, if_false, opWp]; exact ⟨es, he, hK, hr, .inr ⟨bs, u, hn, hV, hl, hu, h⟩⟩
/-- The same, what is appended being a text. -/
theorem s_appS {t m : Nat} {bs u : List UInt8} (hr : roomOk (m + u.length) bytes) (hV : s.hp.tk[t]? = some (.byt ety bs)) (hl : bs.length = m)
    (h : opsWp P r K ({ s with hp := { s.hp with tk := s.hp.tk.set t (.byt ety (bs ++ u)) } }.put dst (.gs t (m + u.length)))) : OpS P (.app 1 bytes ety) [.gs t m, .str u] dst r K s := by
  have hb : ∀ u : List UInt8, bytesB (u.map fun b => D.int .u8 b.toNat) = some u := by
    intro u
    induction u with
    | nil => rfl
    | cons b u ih =>
      have : b.toNat < 256 := UInt8.toNat_lt b
      simp only [List.map_cons, bytesB, ih]
      rw [if_pos ⟨by omega, by omega⟩]
      congr 2
      apply UInt8.toNat_inj.1
      rw [UInt8.toNat_ofNat']; simp
  have hk : ∀ u : List UInt8, elemsK 1 (u.map fun b => D.int .u8 b.toNat) = true := by
    intro u
    induction u with
    | nil => rfl
    | cons b u ih => simp [elemsK, D.isVal, D.cells, ih]
  refine s_appB (es := u.map fun b => D.int .u8 b.toNat) rfl (hb u) (hk u) rfl (by simpa using hr) hV hl ?_
  simpa using h
theorem s_app0 (he : elemsOf s.hp n x = some es) (hK : elemsK n es = true) (hc : D.closedL es = true) (hr : roomOk es.length bytes) (h : opsWp P r K (s.put dst (.slice (D.erL es) .no))) : OpS P (.app n bytes ety) [.lit (.slice none 0 0), x] dst r K s := by
  simp only [OpS, OcWp, isCall, Bool.false_eq_true, if_false, opWp]; exact ⟨es, he, hK, hr, .inl ⟨hc, .inl h⟩⟩
theorem t_app0 (he : elemsOf s.hp n x = some es) (hK : elemsK n es = true) (hc : D.closedL es = true) (hr : roomOk es.length bytes) (h : opsQ P rq K (s.put dst (.slice (D.erL es) .no))) : OpQ P (.app n bytes ety) [.lit (.slice none 0 0), x] dst rq K s := by
  simp only [OpQ, quietWp, isCall, Bool.false_eq_true, if_false, opWp]; exact ⟨es, he, hK, hr, .inl ⟨hc, .inl ⟨by trivial, h⟩⟩⟩
theorem s_app0T (he : elemsOf s.hp n x = some es) (hK : elemsK n es = true) (hc : D.closedL es = true) (hr : roomOk es.length bytes) (h : opsWp P r K ({ s with hp := { s.hp with tk := s.hp.tk ++ [Tv.per n es.length] } }.put dst (.slice (D.erL es) (.tok s.hp.tk.length)))) : OpS P (.app n bytes ety) [.lit (.slice none 0 0), x] dst r K s := by
  simp only [OpS, OcWp, isCall, Bool.false_eq_true, if_false, opWp]; exact ⟨es, he, hK, hr, .inl ⟨hc, .inr h⟩⟩
theorem s_app0G (he : elemsOf s.hp n x = some es) (hK : elemsK n es = true) (hr : roomOk es.length bytes) (h : opsWp P r K ({ s with hp := { s.hp with tk := s.hp.tk ++ [Tv.chg n (flatD es)] } }.put dst (.gs s.hp.tk.length es.length))) : OpS P (.app n bytes ety) [.lit (.slice none 0 0), x] dst r K s := by
  simp only [OpS, OcWp, isCall, Bool.false_eq_true, if_false, opWp]; exact ⟨es, he, hK, hr, .inr h⟩
theorem s_appF (he : elemsOf s.hp n x = some es) (hK : elemsK n es = true) (hc : D.closedL es = true) (hr : roomOk (xs.length + es.length) bytes) (hx : elemsK n xs = true) (hn : 0 < n) (h : opsWp P r K (s.put dst (.slice (xs ++ D.erL es) .no))) : OpS P (.app n bytes ety) [.slice xs .full, x] dst r K s := by
  simp only [OpS, OcWp, isCall, Bool.false_eq_true, if_false, opWp]; exact ⟨es, he, hK, hr, hc, hx, hn, .inl h⟩
theorem t_appF (he : elemsOf s.hp n x = some es) (hK : elemsK n es = true) (hc : D.closedL es = true) (hr : roomOk (xs.length + es.length) bytes) (hx : elemsK n xs = true) (hn : 0 < n) (h : opsQ P rq K (s.put dst (.slice (xs ++ D.erL es) .no))) : OpQ P (.app n bytes ety) [.slice xs .full, x] dst rq K s := by
  simp only [OpQ, quietWp, isCall, Bool.false_eq_true, if_false, opWp]; exact ⟨es, he, hK, hr, hc, hx, hn, .inl ⟨by trivial, h⟩⟩
theorem s_appFT (he : elemsOf s.hp n x = some es) (hK : elemsK n es = true) (hc : D.closedL es = true) (hr : roomOk (xs.length + es.length) bytes) (hx : elemsK n xs = true) (hn : 0 < n) (h : opsWp P r K ({ s with hp := { s.hp with tk := s.hp.tk ++ [Tv.per n (xs.length + es.length)] } }.put dst (.slice (xs ++ D.erL es) (.tok s.hp.tk.length)))) : OpS P (.app n bytes ety) [.slice xs .full, x] dst r K s := by
  simp only [OpS, OcWp, isCall, Bool.false_eq_true, if_false, opWp]; exact ⟨es, he, hK, hr, hc, hx, hn, .inr h⟩
theorem s_slFF {own : Own} (hx : elemsK n xs = true) (h : opsWp P r K (s.put dst (.slice xs .no))) : OpS P (.slcL n false false) [.slice xs own] dst r K s := by
  simp only [OpS, OcWp, isCall, Bool.false_eq_true, if_false, opWp]
  exact ⟨0, xs.length, ⟨rfl, rfl⟩, by omega, by omega, by simp [dlen], hx, by simpa using h⟩
theorem s_slTF {own : Own} (h0 : 0 ≤ a) (h1 : a ≤ xs.length) (hx : elemsK n xs = true) (h : opsWp P r K (s.put dst (.slice (xs.drop a.toNat) .no))) : OpS P (.slcL n true false) [.slice xs own, .int k a] dst r K s := by
  simp only [OpS, OcWp, isCall, Bool.false_eq_true, if_false, opWp]
  exact ⟨a, xs.length, ⟨rfl, rfl⟩, h0, h1, by simp [dlen], hx, by simpa using h⟩
theorem s_slFT {own : Own} (h0 : 0 ≤ a) (h1 : a ≤ xs.length) (hx : elemsK n xs = true) (h : opsWp P r K (s.put dst (.slice (xs.take a.toNat) .no))) : OpS P (.slcL n false true) [.slice xs own, .int k a] dst r K s := by
  simp only [OpS, OcWp, isCall, Bool.false_eq_true, if_false, opWp]
  exact ⟨0, a, ⟨rfl, rfl⟩, by omega, h0, by simpa [dlen] using h1, hx, by simpa using h⟩
theorem s_slTT {own : Own} (h0 : 0 ≤ a) (h1 : a ≤ b) (h2 : b ≤ xs.length) (hx : elemsK n xs = true) (h : opsWp P r K (s.put dst (.slice ((xs.take b.toNat).drop a.toNat) .no))) : OpS P (.slcL n true true) [.slice xs own, .int k a, .int k' b] dst r K s := by
  simp only [OpS, OcWp, isCall, Bool.false_eq_true, if_false, opWp]
  exact ⟨a, b, ⟨rfl, rfl⟩, h0, h1, by simpa [dlen] using h2, hx, h⟩
theorem t_slFF {own : Own} (hx : elemsK n xs = true) (h : opsQ P rq K (s.put dst (.slice xs .no))) : OpQ P (.slcL n false false) [.slice xs own] dst rq K s := by
  simp only [OpQ, quietWp, isCall, Bool.false_eq_true, if_false, opWp]
  exact ⟨0, xs.length, ⟨rfl, rfl⟩, by omega, by omega, by simp [dlen], hx, by trivial, by simpa using h⟩
theorem t_slTF {own : Own} (h0 : 0 ≤ a) (h1 : a ≤ xs.length) (hx : elemsK n xs = true) (h : opsQ P rq K (s.put dst (.slice (xs.drop a.toNat) .no))) : OpQ P (.slcL n true false) [.slice xs own, .int k a] dst rq K s := by
  simp only [OpQ, quietWp, isCall, Bool.false_eq_true, if_false, opWp]
  exact ⟨a, xs.length, ⟨rfl, rfl⟩, h0, h1, by simp [dlen], hx, by trivial, by simpa using h⟩
theorem t_slFT {own : Own} (h0 : 0 ≤ a) (h1 : a ≤ xs.length) (hx : elemsK n xs = true) (h : opsQ P rq K (s.put dst (.slice (xs.take a.toNat) .no))) : OpQ P (.slcL n false true) [.slice xs own, .int k a] dst rq K s := by
  simp only [OpQ, quietWp, isCall, Bool.false_eq_true, if_false, opWp]
  exact ⟨0, a, ⟨rfl, rfl⟩, by omega, h0, by simpa [dlen] using h1, hx, by trivial, by simpa using h⟩
theorem t_slTT {own : Own} (h0 : 0 ≤ a) (h1 : a ≤ b) (h2 : b ≤ xs.length) (hx : elemsK n xs = true) (h : opsQ P rq K (s.put dst (.slice ((xs.take b.toNat).drop a.toNat) .no))) : OpQ P (.slcL n true true) [.slice xs own, .int k a, .int k' b] dst rq K s := by
  simp only [OpQ, quietWp, isCall, Bool.false_eq_true, if_false, opWp]
  exact ⟨a, b, ⟨rfl, rfl⟩, h0, h1, by simpa [dlen] using h2, hx, by trivial, h⟩
theorem s_smTF {bk off len cap : Nat} (h0 : 0 ≤ a) (h1 : a ≤ len) (hc : len ≤ cap) (h : opsWp P r K (s.put dst (.sl bk n (off + a.toNat * n) (len - a.toNat) (cap - a.toNat)))) : OpS P (.slcL n true false) [.sl bk n off len cap, .int k a] dst r K s := by
  simp only [OpS, OcWp, isCall, Bool.false_eq_true, if_false, opWp]
  exact ⟨a, len, ⟨rfl, rfl⟩, h0, h1, by simp [dlen], trivial, hc, by simpa using h⟩
theorem s_smFT {bk off len cap : Nat} (h0 : 0 ≤ a) (h1 : a ≤ len) (hc : len ≤ cap) (h : opsWp P r K (s.put dst (.sl bk n off a.toNat cap))) : OpS P (.slcL n false true) [.sl bk n off len cap, .int k a] dst r K s := by
  simp only [OpS, OcWp, isCall, Bool.false_eq_true, if_false, opWp]
  exact ⟨0, a, ⟨rfl, rfl⟩, by omega, h0, by simpa [dlen] using h1, trivial, hc, by simpa using h⟩
theorem s_smTT {bk off len cap : Nat} (h0 : 0 ≤ a) (h1 : a ≤ b) (h2 : b ≤ len) (hc : len ≤ cap) (h : opsWp P r K (s.put dst (.sl bk n (off + a.toNat * n) (b.toNat - a.toNat) (cap - a.toNat)))) : OpS P (.slcL n true true) [.sl bk n off len cap, .int k a, .int k' b] dst r K s := by
  simp only [OpS, OcWp, isCall, Bool.false_eq_true, if_false, opWp]
  exact ⟨a, b, ⟨rfl, rfl⟩, h0, h1, by simpa [dlen] using h2, trivial, hc, h⟩
theorem s_saFF {m bk off : Nat} (h : opsWp P r K (s.put dst (.sl bk n off m m))) : OpS P (.slcA m n false false) [.ptr bk off] dst r K s := by
  simp only [OpS, OcWp, isCall, Bool.false_eq_true, if_false, opWp]
  exact ⟨0, m, ⟨rfl, rfl⟩, by omega, by omega, by omega, by simpa using h⟩
theorem s_saTF {m bk off : Nat} (h0 : 0 ≤ a) (h1 : a ≤ m) (h : opsWp P r K (s.put dst (.sl bk n (off + a.toNat * n) (m - a.toNat) (m - a.toNat)))) : OpS P (.slcA m n true false) [.ptr bk off, .int k a] dst r K s := by
  simp only [OpS, OcWp, isCall, Bool.false_eq_true, if_false, opWp]
  exact ⟨a, m, ⟨rfl, rfl⟩, h0, h1, by omega, by simpa using h⟩
theorem s_saFT {m bk off : Nat} (h0 : 0 ≤ a) (h1 : a ≤ m) (h : opsWp P r K (s.put dst (.sl bk n off a.toNat m))) : OpS P (.slcA m n false true) [.ptr bk off, .int k a] dst r K s := by
  simp only [OpS, OcWp, isCall, Bool.false_eq_true, if_false, opWp]
  exact ⟨0, a, ⟨rfl, rfl⟩, by omega, h0, h1, by simpa using h⟩
theorem s_b2s {u : List UInt8} (hn : isStr x = false) (he : elemsOf s.hp 1 x = some es) (hb : bytesOf es = some u) (h : opsWp P r K (s.put dst (.str u))) : OpS P .b2s [x] dst r K s := by
  simp only [OpS, OcWp, isCall, Bool.false_eq_true, if_false, opWp]; exact ⟨hn, es, u, he, hb, h⟩
theorem t_b2s {u : List UInt8} (hn : isStr x = false) (he : elemsOf s.hp 1 x = some es) (hb : bytesOf es = some u) (h : opsQ P rq K (s.put dst (.str u))) : OpQ P .b2s [x] dst rq K s := by
  simp only [OpQ, quietWp, isCall, Bool.false_eq_true, if_false, opWp]; exact ⟨hn, es, u, he, hb, by trivial, h⟩
theorem s_cpy {bk off len cap : Nat} {cs : List D} (h1 : s.hp.H[bk]? = some (.cells cs)) (h2 : off + len * n ≤ cs.length) (h3 : len ≤ cap) (he : elemsOf s.hp n x = some es) (hK : elemsK n es = true)
    (h : opsWp P r K ({ s with hp := { s.hp with H := s.hp.H.set bk (.cells (setL cs off (flatD (es.take len)))) } }.put dst (.int .i64 (min es.length len : Nat)))) : OpS P (.cpy n) [.sl bk n off len cap, x] dst r K s := by
  simp only [OpS, OcWp, isCall, Bool.false_eq_true, if_false, opWp]; exact ⟨trivial, cs, es, h1, h2, h3, he, hK, h⟩
theorem s_nxt {bk p : Nat} {u : List UInt8} (h0 : s.hp.H[bk]? = some (.siter u p))
    (h1 : p < u.length → opsWp P r K ({ s with hp := { s.hp with H := s.hp.H.set bk (.siter u (p + (Utf8.decode ⟨u.toArray⟩ p).2)) } }.put dst (.tup [.bool true, .int .i64 p, .int .i32 (Utf8.decode ⟨u.toArray⟩ p).1])))
    (h2 : u.length ≤ p → opsWp P r K (s.put dst (.tup [.bool false]))) : OpS P .nxtS [.ptr bk 0] dst r K s := by
  simp only [OpS, OcWp, isCall, Bool.false_eq_true, if_false, opWp]; exact ⟨u, p, h0, h1, h2⟩

/-- A call that changes the store, in the order of the text. -/
theorem o_eff {f : FuncId} {first cap ds' : List D} {hp0 : Hp} {R : D → Hp → Prop} (bl tl : List Nat) (h : Eff P f ds' hp0 R) (hs : SelOk s.hp bl tl) (hd : D.rnL (posF bl) (posF tl) (first ++ ds ++ cap) = ds') (hh : s.hp.sel bl tl = hp0)
    (hk : ∀ d hp1, R d hp1 → opsWp P r K ({ s with hp := s.hp.back bl tl hp1 }.put dst (d.rn (bakF bl s.hp.H.length) (bakF tl s.hp.tk.length)))) : OpS P .call (.fn (.func f) first cap :: ds) dst r K s := by
  unfold OpS OcWp
  simp only [isCall, if_true]
  exact call_eff bl tl h hs hd hh hk
end

/-- A call of a function that computes, in the order of the text. -/
theorem o_call {f : FuncId} {first cap : List D} {d : D} {ds' : List D} (h : Pur P f ds' d) (he : D.erL (first ++ ds ++ cap) = ds') (hc : D.closedL (first ++ ds ++ cap) = true) (hk : opsWp P r K (s.put dst d)) :
    OpS P .call (.fn (.func f) first cap :: ds) dst r K s := by
  unfold OpS OcWp
  simp only [isCall, if_true]
  exact call_pur hc (he ▸ h) hk

/-- The same in a region that draws, where nothing else looks at the store. -/
theorem c_call {f : FuncId} {first cap : List D} {d : D} {ds' : List D} (h : Pur P f ds' d) (he : D.erL (first ++ ds ++ cap) = ds') (hc : D.closedL (first ++ ds ++ cap) = true) (hk : opsQ P rq K (s.put dst d)) :
    OpC P .call (.fn (.func f) first cap :: ds) dst rq K s := by
  unfold OpC detWp OcWp
  simp only [isCall, if_true]
  exact ⟨d, s.hp, call_pur hc (he ▸ h) ⟨rfl, rfl⟩, hk⟩

/-- A call with one outcome that changes the store. -/
theorem c_eff {f : FuncId} {first cap ds' : List D} {hp0 hp1 : Hp} {d : D} (bl tl : List Nat) (h : Eff P f ds' hp0 fun d' hp' => d' = d ∧ hp' = hp1) (hs : SelOk s.hp bl tl) (hd : D.rnL (posF bl) (posF tl) (first ++ ds ++ cap) = ds') (hh : s.hp.sel bl tl = hp0)
    (hk : opsQ P rq K ({ s with hp := s.hp.back bl tl hp1 }.put dst (d.rn (bakF bl s.hp.H.length) (bakF tl s.hp.tk.length)))) : OpC P .call (.fn (.func f) first cap :: ds) dst rq K s := by
  unfold OpC detWp OcWp
  simp only [isCall, if_true]
  exact ⟨_, _, call_eff bl tl h hs hd hh (by rintro d' hp' ⟨rfl, rfl⟩; exact ⟨rfl, rfl⟩), hk⟩

/-- The same in a region that draws. -/
theorem p_call {f : FuncId} {first cap : List D} {d : D} {ds' : List D} (h : Pur P f ds' d) (he : D.erL (first ++ ds ++ cap) = ds') (hc : D.closedL (first ++ ds ++ cap) = true) (hk : opsQ P rq K (s.put dst d)) :
    OpQ P .call (.fn (.func f) first cap :: ds) dst rq K s := by
  unfold OpQ quietWp CallQ
  simp only [isCall, if_true]
  exact ⟨d, call_pur hc (he ▸ h) ⟨rfl, rfl⟩, hk⟩
end

section
variable {P : Mod} {oc : OC} {args : List Opd} {dst : Dst} {r : List RO} {rq : List (RO × Bool)} {qf : Bool} {K : St → Prop} {s : St} {g : Opd} {want : Bool} {C : Cfg} {Q : Ex → St → Prop} {x y : RC}

/-- A test at its evaluated condition. -/
def CdS (C : Cfg) (b : D) (g : Opd) (x y : RC) (Q : Ex → St → Prop) (s : St) : Prop :=
  match b with
  | .bool t => (t = true → SWp C x Q (s.setO g (.bool true))) ∧ (t = false → SWp C y Q (s.setO g (.bool false)))
  | _ => False

theorem swp_cd (h : CdS C (s.get g) g x y Q s) : SWp C (.cond g x y) Q s := by
  unfold CdS at h
  split at h
  · rename_i t ht; exact swp_cond ht h.1 h.2
  · exact h.elim
theorem e_cdT : CdS C (.bool true) g x y Q s = SWp C x Q (s.setO g (.bool true)) := by simp [CdS]
theorem e_cdF : CdS C (.bool false) g x y Q s = SWp C y Q (s.setO g (.bool false)) := by simp [CdS]

/-- Both ways of a test: what is learned comes as a plain proposition. -/
theorem cd_split {c : Bool} (h1 : c = true → SWp C x Q (s.setO g (.bool true))) (h2 : c = false → SWp C y Q (s.setO g (.bool false))) : CdS C (.bool c) g x y Q s := ⟨h1, h2⟩
theorem cd_dec {p : Prop} [Decidable p] (h1 : p → SWp C x Q (s.setO g (.bool true))) (h2 : ¬p → SWp C y Q (s.setO g (.bool false))) : CdS C (.bool (decide p)) g x y Q s :=
  ⟨fun h => h1 (of_decide_eq_true h), fun h => h2 (of_decide_eq_false h)⟩
theorem cd_eq {a b : Int} (h1 : a = b → SWp C x Q (s.setO g (.bool true))) (h2 : a ≠ b → SWp C y Q (s.setO g (.bool false))) : CdS C (.bool (a == b)) g x y Q s :=
  ⟨fun h => h1 (by simpa using h), fun h => h2 (by simpa using h)⟩
theorem cd_ne {a b : Int} (h1 : a ≠ b → SWp C x Q (s.setO g (.bool true))) (h2 : a = b → SWp C y Q (s.setO g (.bool false))) : CdS C (.bool (a != b)) g x y Q s :=
  ⟨fun h => h1 (by simpa using h), fun h => h2 (by simpa using h)⟩
theorem gd_dec {p : Prop} [Decidable p] (h1 : p → GdS P (.bool true) g want dst oc args r K s) (h2 : ¬p → GdS P (.bool false) g want dst oc args r K s) : GdS P (.bool (decide p)) g want dst oc args r K s :=
  gd_split (fun h => h1 (of_decide_eq_true h)) (fun h => h2 (of_decide_eq_false h))
theorem gd_eq {a b : Int} (h1 : a = b → GdS P (.bool true) g want dst oc args r K s) (h2 : a ≠ b → GdS P (.bool false) g want dst oc args r K s) : GdS P (.bool (a == b)) g want dst oc args r K s :=
  gd_split (fun h => h1 (by simpa using h)) (fun h => h2 (by simpa using h))
theorem gd_ne {a b : Int} (h1 : a ≠ b → GdS P (.bool true) g want dst oc args r K s) (h2 : a = b → GdS P (.bool false) g want dst oc args r K s) : GdS P (.bool (a != b)) g want dst oc args r K s :=
  gd_split (fun h => h1 (by simpa using h)) (fun h => h2 (by simpa using h))
theorem gq_dec {p : Prop} [Decidable p] (h1 : p → GdQ P qf (.bool true) g want dst oc args rq K s) (h2 : ¬p → GdQ P qf (.bool false) g want dst oc args rq K s) : GdQ P qf (.bool (decide p)) g want dst oc args rq K s :=
  gq_split (fun h => h1 (of_decide_eq_true h)) (fun h => h2 (of_decide_eq_false h))
theorem gq_eq {a b : Int} (h1 : a = b → GdQ P qf (.bool true) g want dst oc args rq K s) (h2 : a ≠ b → GdQ P qf (.bool false) g want dst oc args rq K s) : GdQ P qf (.bool (a == b)) g want dst oc args rq K s :=
  gq_split (fun h => h1 (by simpa using h)) (fun h => h2 (by simpa using h))
theorem gq_ne {a b : Int} (h1 : a ≠ b → GdQ P qf (.bool true) g want dst oc args rq K s) (h2 : a = b → GdQ P qf (.bool false) g want dst oc args rq K s) : GdQ P qf (.bool (a != b)) g want dst oc args rq K s :=
  gq_split (fun h => h1 (by simpa using h)) (fun h => h2 (by simpa using h))

/-- A result, read. -/
theorem rr_slot {o : Opd} {K : D → Prop} : rrWp (.slot o) s K = K (s.get o) := propext Iff.rfl
def RcS (ag : Bool) (n : Nat) (p : D) (H : List Blk) (K : D → Prop) : Prop :=
  match p with
  | .ptr b off => ∃ cs, H[b]? = some (.cells cs) ∧ off + n ≤ cs.length ∧ K (if ag then .agg ((cs.drop off).take n) else cs.getD off .undef)
  | _ => False
theorem rr_cell {o : Opd} {ag : Bool} {n : Nat} {K : D → Prop} : rrWp (.cell o ag n) s K = RcS ag n (s.get o) s.hp.H K := by
  unfold rrWp RcS; rfl
def RcB (ag : Bool) (n off : Nat) (B : Option Blk) (K : D → Prop) : Prop := ∃ cs, B = some (.cells cs) ∧ off + n ≤ cs.length ∧ K (if ag then .agg ((cs.drop off).take n) else cs.getD off .undef)
theorem rr_ptr {ag : Bool} {n b off : Nat} {H : List Blk} {K : D → Prop} : RcS ag n (.ptr b off) H K = RcB ag n off (H[b]?) K := propext Iff.rfl
theorem rr_T {n off : Nat} {cs : List D} {K : D → Prop} : RcB true n off (some (.cells cs)) K = (off + n ≤ cs.length ∧ K (.agg ((cs.drop off).take n))) := by simp [RcB]
theorem rr_F {n off : Nat} {cs : List D} {K : D → Prop} : RcB false n off (some (.cells cs)) K = (off + n ≤ cs.length ∧ K (cs.getD off .undef)) := by simp [RcB]
theorem rs_nil {K : List D → Prop} : rrsWp [] s K = K [] := propext Iff.rfl
theorem rs_cons {r : RR} {rs : List RR} {K : List D → Prop} : rrsWp (r :: rs) s K = rrWp r s fun d => rrsWp rs s fun ds => K (d :: ds) := propext Iff.rfl
end

/-- What an int64 holds. -/
theorem w64 {n : Int} (h1 : -9223372036854775808 ≤ n) (h2 : n ≤ 9223372036854775807) : IntKind.i64.wrap n = n := by
  rw [IntKind.wrap_i64]
  omega

attribute [go_sem] o_cvS p_cvS o_lenM p_lenM o_lenG p_lenG o_ixaM p_ixaM o_ixaG p_ixaG o_fldg p_fldg o_rng o_ldg p_ldg q_lgST q_lgSF q_lgQT q_lgQF o_stg q_sgS
attribute [go_sem] f_stepD isCall
attribute [go_sem] e_nil e_step e_guard f_nil f_step f_guard g_tt g_tf g_ft g_ff g_sk h_tt h_tf h_ft h_ff h_sk o_mv p_mv o_pickT o_pickF p_pickT p_pickF o_add o_sub o_mul o_quo o_rem o_and o_or o_xor o_shl o_shr o_eql o_neq o_lss o_leq o_gtr o_geq p_add p_sub p_mul p_quo p_rem p_eql p_neq p_lss p_leq p_gtr p_geq o_cat o_seq o_sne o_slt p_cat p_seq p_sne p_slt o_beqF o_beqT p_beqF p_beqT o_eqA p_eqA q_eqSF q_eqST q_eqQF q_eqQT o_neg p_neg o_not p_not o_cvI p_cvI o_newb o_box o_bld p_bld q_blS q_blQ o_ldp p_ldp o_nckP p_nckP o_nckI p_nckI o_nckG p_nckG q_ldST q_ldSTt q_ldSFt q_ldQTt q_ldQFt q_stSt o_newT q_ldSF q_ldQT q_ldQF o_ldiT o_ldiF p_ldiT p_ldiF o_stp q_stS o_fldp p_fldp o_fldi p_fldi o_fvT o_fvF p_fvT p_fvF o_ixaA p_ixaA o_ixaS p_ixaS o_ixvS p_ixvS o_slTF p_slTF o_slFT p_slFT o_slTT p_slTT o_ext p_ext o_lenA p_lenA o_lenS p_lenS o_lenL p_lenL o_lenN p_lenN o_min p_min o_max p_max q_mmS q_mmQ o_mkI p_mkI o_mkF p_mkF e_cdT e_cdF rr_slot rr_cell rr_ptr rr_T rr_F rs_nil rs_cons
attribute [go_sem] St.get St.put St.setO setK St.done lk List.map_cons List.map_nil List.getD_cons_zero List.getD_cons_succ List.set_cons_zero List.set_cons_succ List.getElem?_cons_zero List.getElem?_cons_succ List.length_cons List.length_nil List.nil_append List.cons_append List.drop_zero List.drop_succ_cons List.take_zero List.take_succ_cons List.drop_nil List.take_nil D.isVal D.cells fillL setL eqDs eqD foldI Nat.succ_eq_add_one Nat.le_refl Nat.zero_add Nat.add_zero Int.toNat_natCast ite_true ite_false ne_eq not_false_eq_true not_true_eq_false true_and and_true and_self Bool.false_eq_true Bool.not_true Bool.not_false Bool.and_true Bool.true_and decide_eq_true_eq oneOrTup D.closed D.closedL D.er D.erL D.rn D.rnL Own.rn Blk.rn Tv.rn Blk.rnL Tv.rnL Hp.back Hp.sel putAt posF bakF idx flatD zeros

section
variable {P P' : Mod} {C : Cfg} {oc : OC} {args : List Opd} {dst : Dst} {r : List RO} {rq : List (RO × Bool)} {qf : Bool} {K : St → Prop} {s s' : St} {g : Opd} {want ag neg : Bool} {x y : RC} {b b' : D} {ds ds' : List D} {B B' : Option Blk} {off off' n bk bk' : Nat} {v v' : D} {k : IntKind} {Q : Ex → St → Prop}
/- Where simp looks: at the program, the values and the state; never at the code that is still to come. -/
@[congr] theorem cg_ops (h1 : P = P') (h2 : s = s') : opsWp P r K s = opsWp P' r K s' := by rw [h1, h2]
@[congr] theorem cg_opsQ (h1 : P = P') (h2 : s = s') : opsQ P rq K s = opsQ P' rq K s' := by rw [h1, h2]
@[congr] theorem cg_OpS (h1 : P = P') (h2 : ds = ds') (h3 : s = s') : OpS P oc ds dst r K s = OpS P' oc ds' dst r K s' := by rw [h1, h2, h3]
@[congr] theorem cg_OpC (h1 : P = P') (h2 : ds = ds') (h3 : s = s') : OpC P oc ds dst rq K s = OpC P' oc ds' dst rq K s' := by rw [h1, h2, h3]
@[congr] theorem cg_OpQ (h1 : P = P') (h2 : ds = ds') (h3 : s = s') : OpQ P oc ds dst rq K s = OpQ P' oc ds' dst rq K s' := by rw [h1, h2, h3]
@[congr] theorem cg_GdS (h1 : P = P') (h2 : b = b') (h3 : s = s') : GdS P b g want dst oc args r K s = GdS P' b' g want dst oc args r K s' := by rw [h1, h2, h3]
@[congr] theorem cg_GdQ (h1 : P = P') (h2 : b = b') (h3 : s = s') : GdQ P qf b g want dst oc args rq K s = GdQ P' qf b' g want dst oc args rq K s' := by rw [h1, h2, h3]
@[congr] theorem cg_CdS (h2 : b = b') (h3 : s = s') : CdS C b g x y Q s = CdS C b' g x y Q s' := by rw [h2, h3]
@[congr] theorem cg_SWp (h3 : s = s') : SWp C x Q s = SWp C x Q s' := by rw [h3]
@[congr] theorem cg_LdS (h1 : P = P') (h2 : B = B') (h4 : off = off') (h3 : s = s') : LdS P ag n B off dst r K s = LdS P' ag n B' off' dst r K s' := by rw [h1, h2, h3, h4]
@[congr] theorem cg_LdQ (h1 : P = P') (h2 : B = B') (h4 : off = off') (h3 : s = s') : LdQ P ag n B off dst rq K s = LdQ P' ag n B' off' dst rq K s' := by rw [h1, h2, h3, h4]
@[congr] theorem cg_StS (h1 : P = P') (h2 : B = B') (h5 : bk = bk') (h4 : off = off') (h6 : v = v') (h3 : s = s') : StS P n B bk off v dst r K s = StS P' n B' bk' off' v' dst r K s' := by rw [h1, h2, h3, h4, h5, h6]
@[congr] theorem cg_LgS {V V' : Option Tv} {m m' : Nat} (h1 : P = P') (h2 : V = V') (h5 : m = m') (h4 : off = off') (h3 : s = s') : LgS P ag n V m off dst r K s = LgS P' ag n V' m' off' dst r K s' := by rw [h1, h2, h3, h4, h5]
@[congr] theorem cg_LgQ {V V' : Option Tv} {m m' : Nat} (h1 : P = P') (h2 : V = V') (h5 : m = m') (h4 : off = off') (h3 : s = s') : LgQ P ag n V m off dst rq K s = LgQ P' ag n V' m' off' dst rq K s' := by rw [h1, h2, h3, h4, h5]
@[congr] theorem cg_SgS {V V' : Option Tv} {m m' : Nat} (h1 : P = P') (h2 : V = V') (h5 : bk = bk') (h7 : m = m') (h4 : off = off') (h6 : v = v') (h3 : s = s') : SgS P n V bk m off v dst r K s = SgS P' n V' bk' m' off' v' dst r K s' := by rw [h1, h2, h3, h4, h5, h6, h7]
end
end GoV
