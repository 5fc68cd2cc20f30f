/- Own texts, merged by a program: the engine that walks the code, and what the functions that the law reaches compute. -/
import Derived.Test.YtofnggfpegcllaaQe2
import Derived.Lib.LaidTab
import Derived.Sort.Grow
import Derived.Deep.Draws
import Derived.ChangeSame
import Derived.ChangeShapes
import Derived.RowKit
import Derived.RangeFuncLeaves
import Derived.RangeFuncIn
import Derived.RangeFuncRecord
import Derived.Deep.Slices
import Derived.OpenShut
import Derived.Carry
import Derived.Shelf.Vars
import Derived.Laws.AppendOwn
import Derived.Test.YtofnggfpegcllaaProg
import Derived.KernelRfl
import Derived.Lib.ItoaNum
section
set_option linter.unusedSimpArgs false
set_option maxHeartbeats 1000000
namespace GoV
open Go
def OpS (P : Mod) (oc : OC) (ds : List D) (dst : Dst) (r : List RO) (K : St → Prop) (s : St) : Prop :=
  OcWp P oc ds s.hp fun d hp => opsWp P r K ({ s with hp := hp }.put dst d)
def GdS (P : Mod) (b : D) (g : Opd) (want : Bool) (dst : Dst) (oc : OC) (args : List Opd) (r : List RO) (K : St → Prop) (s : St) : Prop :=
  match b with
  | .bool b => (b = want → opsWp P (⟨dst, oc, args, none⟩ :: r) K (s.setO g (.bool want))) ∧ (b = (!want) → opsWp P r K ((s.setO g (.bool (!want))).put dst .skip))
  | .skip => opsWp P r K (s.put dst .skip)
  | _ => False
def OpQ (P : Mod) (oc : OC) (ds : List D) (dst : Dst) (rq : List (RO × Bool)) (K : St → Prop) (s : St) : Prop :=
  quietWp P oc ds s.hp fun d => opsQ P rq K (s.put dst d)
def GdQ (P : Mod) (qf : Bool) (b : D) (g : Opd) (want : Bool) (dst : Dst) (oc : OC) (args : List Opd) (rq : List (RO × Bool)) (K : St → Prop) (s : St) : Prop :=
  match b with
  | .bool b => (b = want → opsQ P ((⟨dst, oc, args, none⟩, qf) :: rq) K (s.setO g (.bool want))) ∧ (b = (!want) → opsQ P rq K ((s.setO g (.bool (!want))).put dst .skip))
  | .skip => opsQ P rq K (s.put dst .skip)
  | _ => False
def OpC (P : Mod) (oc : OC) (ds : List D) (dst : Dst) (rq : List (RO × Bool)) (K : St → Prop) (s : St) : Prop :=
  detWp P oc ds s.hp fun d hp => opsQ P rq K ({ s with hp := hp }.put dst d)
def LdS (P : Mod) (ag : Bool) (n : Nat) (B : Option Blk) (off : Nat) (dst : Dst) (r : List RO) (K : St → Prop) (s : St) : Prop :=
  ∃ B' cs, B = some B' ∧ B'.csq = some cs ∧ off + n ≤ cs.length ∧ opsWp P r K (s.put dst (if ag then .agg ((cs.drop off).take n) else cs.getD off .undef))
def LdQ (P : Mod) (ag : Bool) (n : Nat) (B : Option Blk) (off : Nat) (dst : Dst) (rq : List (RO × Bool)) (K : St → Prop) (s : St) : Prop :=
  ∃ B' cs, B = some B' ∧ B'.csq = some cs ∧ off + n ≤ cs.length ∧ opsQ P rq K (s.put dst (if ag then .agg ((cs.drop off).take n) else cs.getD off .undef))
def StS (P : Mod) (n : Nat) (B : Option Blk) (b off : Nat) (v : D) (dst : Dst) (r : List RO) (K : St → Prop) (s : St) : Prop :=
  ∃ B' cs, B = some B' ∧ B'.csq = some cs ∧ v.isVal = true ∧ v.cells.length = n ∧ off + n ≤ cs.length ∧ opsWp P r K ({ s with hp := { s.hp with H := s.hp.H.set b (B'.putc (setL cs off v.cells)) } }.put dst .skip)
def BlS (P : Mod) (cs : Option (List D)) (dst : Dst) (r : List RO) (K : St → Prop) (s : St) : Prop := ∃ c, cs = some c ∧ opsWp P r K (s.put dst (.agg c))
def BlQ (P : Mod) (cs : Option (List D)) (dst : Dst) (rq : List (RO × Bool)) (K : St → Prop) (s : St) : Prop := ∃ c, cs = some c ∧ opsQ P rq K (s.put dst (.agg c))
def EqS (P : Mod) (neg : Bool) (b : Option Bool) (dst : Dst) (r : List RO) (K : St → Prop) (s : St) : Prop := ∃ c, b = some c ∧ opsWp P r K (s.put dst (.bool (if neg then !c else c)))
def EqQ (P : Mod) (neg : Bool) (b : Option Bool) (dst : Dst) (rq : List (RO × Bool)) (K : St → Prop) (s : St) : Prop := ∃ c, b = some c ∧ opsQ P rq K (s.put dst (.bool (if neg then !c else c)))
def LgS (P : Mod) (ag : Bool) (n : Nat) (V : Option Tv) (m off : Nat) (dst : Dst) (r : List RO) (K : St → Prop) (s : St) : Prop :=
  ∃ k cs, V = some (.chg k cs) ∧ cs.length = m * k ∧ off + n ≤ cs.length ∧ opsWp P r K (s.put dst (if ag then .agg ((cs.drop off).take n) else cs.getD off .undef))
def LgQ (P : Mod) (ag : Bool) (n : Nat) (V : Option Tv) (m off : Nat) (dst : Dst) (rq : List (RO × Bool)) (K : St → Prop) (s : St) : Prop :=
  ∃ k cs, V = some (.chg k cs) ∧ cs.length = m * k ∧ off + n ≤ cs.length ∧ opsQ P rq K (s.put dst (if ag then .agg ((cs.drop off).take n) else cs.getD off .undef))
def SgS (P : Mod) (n : Nat) (V : Option Tv) (t m off : Nat) (v : D) (dst : Dst) (r : List RO) (K : St → Prop) (s : St) : Prop :=
  ∃ k cs, V = some (.chg k cs) ∧ cs.length = m * k ∧ v.isVal = true ∧ v.cells.length = n ∧ off + n ≤ cs.length ∧ opsWp P r K ({ s with hp := { s.hp with tk := s.hp.tk.set t (.chg k (setL cs off v.cells)) } }.put dst .skip)
def MmS (P : Mod) (k : IntKind) (b : Option Int) (dst : Dst) (r : List RO) (K : St → Prop) (s : St) : Prop := ∃ c, b = some c ∧ opsWp P r K (s.put dst (.int k c))
def MmQ (P : Mod) (k : IntKind) (b : Option Int) (dst : Dst) (rq : List (RO × Bool)) (K : St → Prop) (s : St) : Prop := ∃ c, b = some c ∧ opsQ P rq K (s.put dst (.int k c))
section
variable {P : Mod} {oc : OC} {args : List Opd} {dst : Dst} {r : List RO} {rq : List (RO × Bool)} {qf : Bool} {K : St → Prop} {s : St} {g : Opd} {want : Bool} {k k' : IntKind} {a b : Int} {x y : D} {ds : List D}
theorem e_nil : opsWp P [] K s = K s := propext Iff.rfl
theorem e_step : opsWp P (⟨dst, oc, args, none⟩ :: r) K s = OpS P oc (args.map s.get) dst r K s := propext Iff.rfl
theorem e_guard : opsWp P (⟨dst, oc, args, some (g, want)⟩ :: r) K s = GdS P (s.get g) g want dst oc args r K s := by
  simp only [opsWp, headWp, GdS]
  cases s.get g <;> simp only [opsWp, headWp, setO_hp]
theorem f_nil : opsQ P [] K s = K s := propext Iff.rfl
theorem f_step : opsQ P ((⟨dst, oc, args, none⟩, true) :: rq) K s = OpQ P (qOp oc) (args.map s.get) dst rq K s := propext Iff.rfl
theorem f_stepD : opsQ P ((⟨dst, oc, args, none⟩, false) :: rq) K s = if isCall (qOp oc) = true then OpC P (qOp oc) (args.map s.get) dst rq K s else OpS P (qOp oc) (args.map s.get) dst [] (opsQ P rq K) s := by
  split
  · rfl
  · rename_i hc
    show detWp _ _ _ _ _ = _
    rw [det_op (qOp_ne _) (by simpa using hc)]; rfl
theorem f_guard : opsQ P ((⟨dst, oc, args, some (g, want)⟩, qf) :: rq) K s = GdQ P qf (s.get g) g want dst oc args rq K s := by
  simp only [opsQ, headQ, GdQ]
  cases s.get g <;> simp only [opsQ, headQ, setO_hp]
theorem g_tt : GdS P (.bool true) g true dst oc args r K s = opsWp P (⟨dst, oc, args, none⟩ :: r) K (s.setO g (.bool true)) := by simp [GdS]
theorem g_tf : GdS P (.bool true) g false dst oc args r K s = opsWp P r K ((s.setO g (.bool true)).put dst .skip) := by simp [GdS]
theorem g_ft : GdS P (.bool false) g true dst oc args r K s = opsWp P r K ((s.setO g (.bool false)).put dst .skip) := by simp [GdS]
theorem g_ff : GdS P (.bool false) g false dst oc args r K s = opsWp P (⟨dst, oc, args, none⟩ :: r) K (s.setO g (.bool false)) := by simp [GdS]
theorem g_sk : GdS P .skip g want dst oc args r K s = opsWp P r K (s.put dst .skip) := propext Iff.rfl
theorem h_tt : GdQ P qf (.bool true) g true dst oc args rq K s = opsQ P ((⟨dst, oc, args, none⟩, qf) :: rq) K (s.setO g (.bool true)) := by simp [GdQ]
theorem h_tf : GdQ P qf (.bool true) g false dst oc args rq K s = opsQ P rq K ((s.setO g (.bool true)).put dst .skip) := by simp [GdQ]
theorem h_ft : GdQ P qf (.bool false) g true dst oc args rq K s = opsQ P rq K ((s.setO g (.bool false)).put dst .skip) := by simp [GdQ]
theorem h_ff : GdQ P qf (.bool false) g false dst oc args rq K s = opsQ P ((⟨dst, oc, args, none⟩, qf) :: rq) K (s.setO g (.bool false)) := by simp [GdQ]
theorem h_sk : GdQ P qf .skip g want dst oc args rq K s = opsQ P rq K (s.put dst .skip) := propext Iff.rfl
theorem gd_split {c : Bool} (h1 : c = true → GdS P (.bool true) g want dst oc args r K s) (h2 : c = false → GdS P (.bool false) g want dst oc args r K s) : GdS P (.bool c) g want dst oc args r K s := by
  cases c
  · exact h2 rfl
  · exact h1 rfl
theorem gq_split {c : Bool} (h1 : c = true → GdQ P qf (.bool true) g want dst oc args rq K s) (h2 : c = false → GdQ P qf (.bool false) g want dst oc args rq K s) : GdQ P qf (.bool c) g want dst oc args rq K s := by
  cases c
  · exact h2 rfl
  · exact h1 rfl
theorem o_mv : OpS P .mv [x] dst r K s = opsWp P r K (s.put dst x) := propext Iff.rfl
theorem p_mv : OpQ P .mv [x] dst rq K s = opsQ P rq K (s.put dst x) := by simp [OpQ, quietWp, isCall, opWp]
theorem o_nckP {bk o : Nat} : OpS P .nck [.ptr bk o] dst r K s = opsWp P r K (s.put dst (.ptr bk o)) := by simp [OpS, OcWp, isCall, opWp]
theorem p_nckP {bk o : Nat} : OpQ P .nck [.ptr bk o] dst rq K s = opsQ P rq K (s.put dst (.ptr bk o)) := by simp [OpQ, quietWp, isCall, opWp]
theorem o_nckI {cs : List D} : OpS P .nck [.ip cs] dst r K s = opsWp P r K (s.put dst (.ip cs)) := by simp [OpS, OcWp, isCall, opWp]
theorem p_nckI {cs : List D} : OpQ P .nck [.ip cs] dst rq K s = opsQ P rq K (s.put dst (.ip cs)) := by simp [OpQ, quietWp, isCall, opWp]
theorem o_nckG {t m o : Nat} : OpS P .nck [.gp t m o] dst r K s = opsWp P r K (s.put dst (.gp t m o)) := by simp [OpS, OcWp, isCall, opWp]
theorem p_nckG {t m o : Nat} : OpQ P .nck [.gp t m o] dst rq K s = opsQ P rq K (s.put dst (.gp t m o)) := by simp [OpQ, quietWp, isCall, opWp]
theorem o_pickT : OpS P .pick [.bool true, x, y] dst r K s = opsWp P r K (s.put dst x) := by simp [OpS, OcWp, isCall, opWp]
theorem o_pickF : OpS P .pick [.bool false, x, y] dst r K s = opsWp P r K (s.put dst y) := by simp [OpS, OcWp, isCall, opWp]
theorem p_pickT : OpQ P .pick [.bool true, x, y] dst rq K s = opsQ P rq K (s.put dst x) := by simp [OpQ, quietWp, isCall, opWp]
theorem p_pickF : OpQ P .pick [.bool false, x, y] dst rq K s = opsQ P rq K (s.put dst y) := by simp [OpQ, quietWp, isCall, opWp]
theorem o_add : OpS P (.bin .add) [.int k a, .int k b] dst r K s = opsWp P r K (s.put dst (.int k (k.wrap (a + b)))) := by simp [OpS, OcWp, isCall, opWp, binWp]
theorem o_sub : OpS P (.bin .sub) [.int k a, .int k b] dst r K s = opsWp P r K (s.put dst (.int k (k.wrap (a - b)))) := by simp [OpS, OcWp, isCall, opWp, binWp]
theorem o_mul : OpS P (.bin .mul) [.int k a, .int k b] dst r K s = opsWp P r K (s.put dst (.int k (k.wrap (a * b)))) := by simp [OpS, OcWp, isCall, opWp, binWp]
theorem o_quo : OpS P (.bin .quo) [.int k a, .int k b] dst r K s = (b ≠ 0 ∧ opsWp P r K (s.put dst (.int k (k.wrap (a.tdiv b))))) := by simp [OpS, OcWp, isCall, opWp, binWp]
theorem o_rem : OpS P (.bin .rem) [.int k a, .int k b] dst r K s = (b ≠ 0 ∧ opsWp P r K (s.put dst (.int k (a.tmod b)))) := by simp [OpS, OcWp, isCall, opWp, binWp]
theorem o_and : OpS P (.bin .and) [.int k a, .int k b] dst r K s = opsWp P r K (s.put dst (.int k (bitsV .and k a b))) := by simp [OpS, OcWp, isCall, opWp, binWp]
theorem o_or : OpS P (.bin .or) [.int k a, .int k b] dst r K s = opsWp P r K (s.put dst (.int k (bitsV .or k a b))) := by simp [OpS, OcWp, isCall, opWp, binWp]
theorem o_xor : OpS P (.bin .xor) [.int k a, .int k b] dst r K s = opsWp P r K (s.put dst (.int k (bitsV .xor k a b))) := by simp [OpS, OcWp, isCall, opWp, binWp]
theorem o_shl : OpS P (.bin .shl) [.int k a, .int k' b] dst r K s = (0 ≤ b ∧ opsWp P r K (s.put dst (.int k (k.wrap (a * 2 ^ (min b.toNat k.bits)))))) := by simp [OpS, OcWp, isCall, opWp, binWp]
theorem o_shr : OpS P (.bin .shr) [.int k a, .int k' b] dst r K s = (0 ≤ b ∧ opsWp P r K (s.put dst (.int k (a.fdiv (2 ^ (min b.toNat k.bits)))))) := by simp [OpS, OcWp, isCall, opWp, binWp]
theorem o_eql : OpS P (.bin .eql) [.int k a, .int k b] dst r K s = opsWp P r K (s.put dst (.bool (a == b))) := by simp [OpS, OcWp, isCall, opWp, binWp]
theorem o_neq : OpS P (.bin .neq) [.int k a, .int k b] dst r K s = opsWp P r K (s.put dst (.bool (a != b))) := by simp [OpS, OcWp, isCall, opWp, binWp]
theorem o_lss : OpS P (.bin .lss) [.int k a, .int k b] dst r K s = opsWp P r K (s.put dst (.bool (decide (a < b)))) := by simp [OpS, OcWp, isCall, opWp, binWp]
theorem o_leq : OpS P (.bin .leq) [.int k a, .int k b] dst r K s = opsWp P r K (s.put dst (.bool (decide (a ≤ b)))) := by simp [OpS, OcWp, isCall, opWp, binWp]
theorem o_gtr : OpS P (.bin .gtr) [.int k a, .int k b] dst r K s = opsWp P r K (s.put dst (.bool (decide (b < a)))) := by simp [OpS, OcWp, isCall, opWp, binWp]
theorem o_geq : OpS P (.bin .geq) [.int k a, .int k b] dst r K s = opsWp P r K (s.put dst (.bool (decide (b ≤ a)))) := by simp [OpS, OcWp, isCall, opWp, binWp]
theorem p_add : OpQ P (.bin .add) [.int k a, .int k b] dst rq K s = opsQ P rq K (s.put dst (.int k (k.wrap (a + b)))) := by simp [OpQ, quietWp, isCall, opWp, binWp]
theorem p_sub : OpQ P (.bin .sub) [.int k a, .int k b] dst rq K s = opsQ P rq K (s.put dst (.int k (k.wrap (a - b)))) := by simp [OpQ, quietWp, isCall, opWp, binWp]
theorem p_mul : OpQ P (.bin .mul) [.int k a, .int k b] dst rq K s = opsQ P rq K (s.put dst (.int k (k.wrap (a * b)))) := by simp [OpQ, quietWp, isCall, opWp, binWp]
theorem p_quo : OpQ P (.bin .quo) [.int k a, .int k b] dst rq K s = (b ≠ 0 ∧ opsQ P rq K (s.put dst (.int k (k.wrap (a.tdiv b))))) := by simp [OpQ, quietWp, isCall, opWp, binWp]
theorem p_rem : OpQ P (.bin .rem) [.int k a, .int k b] dst rq K s = (b ≠ 0 ∧ opsQ P rq K (s.put dst (.int k (a.tmod b)))) := by simp [OpQ, quietWp, isCall, opWp, binWp]
theorem p_eql : OpQ P (.bin .eql) [.int k a, .int k b] dst rq K s = opsQ P rq K (s.put dst (.bool (a == b))) := by simp [OpQ, quietWp, isCall, opWp, binWp]
theorem p_neq : OpQ P (.bin .neq) [.int k a, .int k b] dst rq K s = opsQ P rq K (s.put dst (.bool (a != b))) := by simp [OpQ, quietWp, isCall, opWp, binWp]
theorem p_lss : OpQ P (.bin .lss) [.int k a, .int k b] dst rq K s = opsQ P rq K (s.put dst (.bool (decide (a < b)))) := by simp [OpQ, quietWp, isCall, opWp, binWp]
theorem p_leq : OpQ P (.bin .leq) [.int k a, .int k b] dst rq K s = opsQ P rq K (s.put dst (.bool (decide (a ≤ b)))) := by simp [OpQ, quietWp, isCall, opWp, binWp]
theorem p_gtr : OpQ P (.bin .gtr) [.int k a, .int k b] dst rq K s = opsQ P rq K (s.put dst (.bool (decide (b < a)))) := by simp [OpQ, quietWp, isCall, opWp, binWp]
theorem p_geq : OpQ P (.bin .geq) [.int k a, .int k b] dst rq K s = opsQ P rq K (s.put dst (.bool (decide (b ≤ a)))) := by simp [OpQ, quietWp, isCall, opWp, binWp]
theorem o_cat {u v : List UInt8} : OpS P (.bin .add) [.str u, .str v] dst r K s = (u.length + v.length ≤ 4611686018427387904 ∧ opsWp P r K (s.put dst (.str (u ++ v)))) := by simp [OpS, OcWp, isCall, opWp, binWp]
theorem o_seq {u v : List UInt8} : OpS P (.bin .eql) [.str u, .str v] dst r K s = opsWp P r K (s.put dst (.bool (u == v))) := by simp [OpS, OcWp, isCall, opWp, binWp]
theorem o_sne {u v : List UInt8} : OpS P (.bin .neq) [.str u, .str v] dst r K s = opsWp P r K (s.put dst (.bool (!(u == v)))) := by simp [OpS, OcWp, isCall, opWp, binWp]
theorem o_slt {u v : List UInt8} : OpS P (.bin .lss) [.str u, .str v] dst r K s = opsWp P r K (s.put dst (.bool (Op.bytesLess u v))) := by simp [OpS, OcWp, isCall, opWp, binWp]
theorem p_cat {u v : List UInt8} : OpQ P (.bin .add) [.str u, .str v] dst rq K s = (u.length + v.length ≤ 4611686018427387904 ∧ opsQ P rq K (s.put dst (.str (u ++ v)))) := by simp [OpQ, quietWp, isCall, opWp, binWp]
theorem p_seq {u v : List UInt8} : OpQ P (.bin .eql) [.str u, .str v] dst rq K s = opsQ P rq K (s.put dst (.bool (u == v))) := by simp [OpQ, quietWp, isCall, opWp, binWp]
theorem p_sne {u v : List UInt8} : OpQ P (.bin .neq) [.str u, .str v] dst rq K s = opsQ P rq K (s.put dst (.bool (!(u == v)))) := by simp [OpQ, quietWp, isCall, opWp, binWp]
theorem p_slt {u v : List UInt8} : OpQ P (.bin .lss) [.str u, .str v] dst rq K s = opsQ P rq K (s.put dst (.bool (Op.bytesLess u v))) := by simp [OpQ, quietWp, isCall, opWp, binWp]
theorem o_beqF {u v : Bool} : OpS P (.eqB false) [.bool u, .bool v] dst r K s = opsWp P r K (s.put dst (.bool (u == v))) := by simp [OpS, OcWp, isCall, opWp]
theorem o_beqT {u v : Bool} : OpS P (.eqB true) [.bool u, .bool v] dst r K s = opsWp P r K (s.put dst (.bool (!(u == v)))) := by simp [OpS, OcWp, isCall, opWp]
theorem p_beqF {u v : Bool} : OpQ P (.eqB false) [.bool u, .bool v] dst rq K s = opsQ P rq K (s.put dst (.bool (u == v))) := by simp [OpQ, quietWp, isCall, opWp]
theorem p_beqT {u v : Bool} : OpQ P (.eqB true) [.bool u, .bool v] dst rq K s = opsQ P rq K (s.put dst (.bool (!(u == v)))) := by simp [OpQ, quietWp, isCall, opWp]
theorem o_eqA {neg : Bool} {ks : List EK} {u v : List D} : OpS P (.eqA neg ks) [.agg u, .agg v] dst r K s = EqS P neg (eqDs ks u v) dst r K s := by simp [OpS, OcWp, isCall, opWp, EqS]
theorem p_eqA {neg : Bool} {ks : List EK} {u v : List D} : OpQ P (.eqA neg ks) [.agg u, .agg v] dst rq K s = EqQ P neg (eqDs ks u v) dst rq K s := by simp [OpQ, quietWp, isCall, opWp, EqQ]
theorem q_eqSF {c : Bool} : EqS P false (some c) dst r K s = opsWp P r K (s.put dst (.bool c)) := by simp [EqS]
theorem q_eqST {c : Bool} : EqS P true (some c) dst r K s = opsWp P r K (s.put dst (.bool (!c))) := by simp [EqS]
theorem q_eqQF {c : Bool} : EqQ P false (some c) dst rq K s = opsQ P rq K (s.put dst (.bool c)) := by simp [EqQ]
theorem q_eqQT {c : Bool} : EqQ P true (some c) dst rq K s = opsQ P rq K (s.put dst (.bool (!c))) := by simp [EqQ]
theorem o_neg : OpS P (.un .neg) [.int k a] dst r K s = opsWp P r K (s.put dst (.int k (k.wrap (0 - a)))) := by simp [OpS, OcWp, isCall, opWp, unWp]
theorem p_neg : OpQ P (.un .neg) [.int k a] dst rq K s = opsQ P rq K (s.put dst (.int k (k.wrap (0 - a)))) := by simp [OpQ, quietWp, isCall, opWp, unWp]
theorem o_not {c : Bool} : OpS P (.un .not) [.bool c] dst r K s = opsWp P r K (s.put dst (.bool (!c))) := by simp [OpS, OcWp, isCall, opWp, unWp]
theorem p_not {c : Bool} : OpQ P (.un .not) [.bool c] dst rq K s = opsQ P rq K (s.put dst (.bool (!c))) := by simp [OpQ, quietWp, isCall, opWp, unWp]
theorem o_cvI : OpS P (.cvI k) [.int k' a] dst r K s = opsWp P r K (s.put dst (.int k (k.wrap a))) := by simp [OpS, OcWp, isCall, opWp]
theorem p_cvI : OpQ P (.cvI k) [.int k' a] dst rq K s = opsQ P rq K (s.put dst (.int k (k.wrap a))) := by simp [OpQ, quietWp, isCall, opWp]
theorem o_newb {z : List D} : OpS P (.newb z) [] dst r K s = opsWp P r K ({ s with hp := { s.hp with H := s.hp.H ++ [Blk.cells z] } }.put dst (.ptr s.hp.H.length 0)) := by simp [OpS, OcWp, isCall, opWp]
theorem o_newT {z : List D} {bty : TypeId} : OpS P (.newT bty z) [] dst r K s = opsWp P r K ({ s with hp := { s.hp with H := s.hp.H ++ [Blk.tcells bty z] } }.put dst (.ptr s.hp.H.length 0)) := by simp [OpS, OcWp, isCall, opWp]
theorem o_eqN {neg : Bool} : OpS P (.eqN neg) [x, .lit (.slice none 0 0)] dst r K s = eqnWp neg x (fun d => opsWp P r K (s.put dst d)) := by simp [OpS, OcWp, isCall, opWp]
theorem n_nil {neg : Bool} {K : D → Prop} : eqnWp neg (.lit (.slice none 0 0)) K = K (.bool (!neg)) := rfl
theorem n_emp {neg : Bool} {own : Own} {K : D → Prop} : eqnWp neg (.slice [] own) K = ∀ b, K (.bool b) := rfl
theorem n_cons {neg : Bool} {y : D} {ys : List D} {own : Own} {K : D → Prop} : eqnWp neg (.slice (y :: ys) own) K = K (.bool neg) := rfl
theorem n_sl {neg : Bool} {b k off len cap : Nat} {K : D → Prop} : eqnWp neg (.sl b k off len cap) K = K (.bool neg) := rfl
theorem o_box : OpS P .box [x] dst r K s = (x.isVal = true ∧ opsWp P r K ({ s with hp := { s.hp with H := s.hp.H ++ [Blk.cells x.cells] } }.put dst (.ptr s.hp.H.length 0))) := by simp [OpS, OcWp, isCall, opWp]
theorem o_bld {z : List D} {ps : List (Nat × Nat)} : OpS P (.bld z ps) ds dst r K s = BlS P (fillL z ps ds) dst r K s := by simp [OpS, OcWp, isCall, opWp, BlS]
theorem p_bld {z : List D} {ps : List (Nat × Nat)} : OpQ P (.bld z ps) ds dst rq K s = BlQ P (fillL z ps ds) dst rq K s := by simp [OpQ, quietWp, isCall, opWp, BlQ]
theorem q_blS {c : List D} : BlS P (some c) dst r K s = opsWp P r K (s.put dst (.agg c)) := by simp [BlS]
theorem q_blQ {c : List D} : BlQ P (some c) dst rq K s = opsQ P rq K (s.put dst (.agg c)) := by simp [BlQ]
theorem o_ldp {ag : Bool} {n bk off : Nat} : OpS P (.ld ag n) [.ptr bk off] dst r K s = LdS P ag n (s.hp.H[bk]?) off dst r K s := by simp [OpS, OcWp, isCall, opWp, LdS]
theorem p_ldp {ag : Bool} {n bk off : Nat} : OpQ P (.ld ag n) [.ptr bk off] dst rq K s = LdQ P ag n (s.hp.H[bk]?) off dst rq K s := by simp [OpQ, quietWp, isCall, opWp, LdQ]
theorem q_ldST {n off : Nat} {cs : List D} : LdS P true n (some (.cells cs)) off dst r K s = (off + n ≤ cs.length ∧ opsWp P r K (s.put dst (.agg ((cs.drop off).take n)))) := by simp [LdS, Blk.csq, Blk.putc]
theorem q_ldSTt {n off : Nat} {bty : TypeId} {cs : List D} : LdS P true n (some (.tcells bty cs)) off dst r K s = (off + n ≤ cs.length ∧ opsWp P r K (s.put dst (.agg ((cs.drop off).take n)))) := by simp [LdS, Blk.csq, Blk.putc]
theorem q_ldSF {n off : Nat} {cs : List D} : LdS P false n (some (.cells cs)) off dst r K s = (off + n ≤ cs.length ∧ opsWp P r K (s.put dst (cs.getD off .undef))) := by simp [LdS, Blk.csq, Blk.putc]
theorem q_ldSFt {n off : Nat} {bty : TypeId} {cs : List D} : LdS P false n (some (.tcells bty cs)) off dst r K s = (off + n ≤ cs.length ∧ opsWp P r K (s.put dst (cs.getD off .undef))) := by simp [LdS, Blk.csq, Blk.putc]
theorem q_ldQT {n off : Nat} {cs : List D} : LdQ P true n (some (.cells cs)) off dst rq K s = (off + n ≤ cs.length ∧ opsQ P rq K (s.put dst (.agg ((cs.drop off).take n)))) := by simp [LdQ, Blk.csq, Blk.putc]
theorem q_ldQTt {n off : Nat} {bty : TypeId} {cs : List D} : LdQ P true n (some (.tcells bty cs)) off dst rq K s = (off + n ≤ cs.length ∧ opsQ P rq K (s.put dst (.agg ((cs.drop off).take n)))) := by simp [LdQ, Blk.csq, Blk.putc]
theorem q_ldQF {n off : Nat} {cs : List D} : LdQ P false n (some (.cells cs)) off dst rq K s = (off + n ≤ cs.length ∧ opsQ P rq K (s.put dst (cs.getD off .undef))) := by simp [LdQ, Blk.csq, Blk.putc]
theorem q_ldQFt {n off : Nat} {bty : TypeId} {cs : List D} : LdQ P false n (some (.tcells bty cs)) off dst rq K s = (off + n ≤ cs.length ∧ opsQ P rq K (s.put dst (cs.getD off .undef))) := by simp [LdQ, Blk.csq, Blk.putc]
theorem o_ldiT {n : Nat} {cs : List D} : OpS P (.ld true n) [.ip cs] dst r K s = (0 < n ∧ n ≤ cs.length ∧ opsWp P r K (s.put dst (.agg (cs.take n)))) := by simp [OpS, OcWp, isCall, opWp]
theorem o_ldiF {n : Nat} {cs : List D} : OpS P (.ld false n) [.ip cs] dst r K s = (0 < n ∧ n ≤ cs.length ∧ opsWp P r K (s.put dst (cs.getD 0 .undef))) := by simp [OpS, OcWp, isCall, opWp]
theorem p_ldiT {n : Nat} {cs : List D} : OpQ P (.ld true n) [.ip cs] dst rq K s = (0 < n ∧ n ≤ cs.length ∧ opsQ P rq K (s.put dst (.agg (cs.take n)))) := by simp [OpQ, quietWp, isCall, opWp]
theorem p_ldiF {n : Nat} {cs : List D} : OpQ P (.ld false n) [.ip cs] dst rq K s = (0 < n ∧ n ≤ cs.length ∧ opsQ P rq K (s.put dst (cs.getD 0 .undef))) := by simp [OpQ, quietWp, isCall, opWp]
theorem o_stp {n bk off : Nat} : OpS P (.st n) [.ptr bk off, x] dst r K s = StS P n (s.hp.H[bk]?) bk off x dst r K s := by simp [OpS, OcWp, isCall, opWp, StS]
theorem q_stS {n bk off : Nat} {cs : List D} : StS P n (some (.cells cs)) bk off x dst r K s = (x.isVal = true ∧ x.cells.length = n ∧ off + n ≤ cs.length ∧ opsWp P r K ({ s with hp := { s.hp with H := s.hp.H.set bk (.cells (setL cs off x.cells)) } }.put dst .skip)) := by simp [StS, Blk.csq, Blk.putc]
theorem q_stSt {n bk off : Nat} {bty : TypeId} {cs : List D} : StS P n (some (.tcells bty cs)) bk off x dst r K s = (x.isVal = true ∧ x.cells.length = n ∧ off + n ≤ cs.length ∧ opsWp P r K ({ s with hp := { s.hp with H := s.hp.H.set bk (.tcells bty (setL cs off x.cells)) } }.put dst .skip)) := by simp [StS, Blk.csq, Blk.putc]
theorem o_fldp {off bk o : Nat} : OpS P (.fld off) [.ptr bk o] dst r K s = opsWp P r K (s.put dst (.ptr bk (o + off))) := by simp [OpS, OcWp, isCall, opWp]
theorem p_fldp {off bk o : Nat} : OpQ P (.fld off) [.ptr bk o] dst rq K s = opsQ P rq K (s.put dst (.ptr bk (o + off))) := by simp [OpQ, quietWp, isCall, opWp]
theorem o_fldi {off : Nat} {cs : List D} : OpS P (.fld off) [.ip cs] dst r K s = opsWp P r K (s.put dst (.ip (cs.drop off))) := by simp [OpS, OcWp, isCall, opWp]
theorem p_fldi {off : Nat} {cs : List D} : OpQ P (.fld off) [.ip cs] dst rq K s = opsQ P rq K (s.put dst (.ip (cs.drop off))) := by simp [OpQ, quietWp, isCall, opWp]
theorem o_fvT {off n : Nat} {cs : List D} : OpS P (.fv true off n) [.agg cs] dst r K s = (off + n ≤ cs.length ∧ opsWp P r K (s.put dst (.agg ((cs.drop off).take n)))) := by simp [OpS, OcWp, isCall, opWp]
theorem o_fvF {off n : Nat} {cs : List D} : OpS P (.fv false off n) [.agg cs] dst r K s = (off + n ≤ cs.length ∧ opsWp P r K (s.put dst (cs.getD off .undef))) := by simp [OpS, OcWp, isCall, opWp]
theorem p_fvT {off n : Nat} {cs : List D} : OpQ P (.fv true off n) [.agg cs] dst rq K s = (off + n ≤ cs.length ∧ opsQ P rq K (s.put dst (.agg ((cs.drop off).take n)))) := by simp [OpQ, quietWp, isCall, opWp]
theorem p_fvF {off n : Nat} {cs : List D} : OpQ P (.fv false off n) [.agg cs] dst rq K s = (off + n ≤ cs.length ∧ opsQ P rq K (s.put dst (cs.getD off .undef))) := by simp [OpQ, quietWp, isCall, opWp]
theorem o_ixaA {len n bk o : Nat} : OpS P (.ixaA len n) [.ptr bk o, .int k a] dst r K s = (0 ≤ a ∧ a < len ∧ opsWp P r K (s.put dst (.ptr bk (o + a.toNat * n)))) := by simp [OpS, OcWp, isCall, opWp]
theorem p_ixaA {len n bk o : Nat} : OpQ P (.ixaA len n) [.ptr bk o, .int k a] dst rq K s = (0 ≤ a ∧ a < len ∧ opsQ P rq K (s.put dst (.ptr bk (o + a.toNat * n)))) := by simp [OpQ, quietWp, isCall, opWp]
theorem o_ixaS {n : Nat} {es : List D} {own : Own} : OpS P (.ixaS n) [.slice es own, .int k a] dst r K s = (0 ≤ a ∧ a < es.length ∧ (es.getD a.toNat .undef).isVal = true ∧ (es.getD a.toNat .undef).cells.length = n ∧ opsWp P r K (s.put dst (.ip (es.getD a.toNat .undef).cells))) := by simp [OpS, OcWp, isCall, opWp]
theorem p_ixaS {n : Nat} {es : List D} {own : Own} : OpQ P (.ixaS n) [.slice es own, .int k a] dst rq K s = (0 ≤ a ∧ a < es.length ∧ (es.getD a.toNat .undef).isVal = true ∧ (es.getD a.toNat .undef).cells.length = n ∧ opsQ P rq K (s.put dst (.ip (es.getD a.toNat .undef).cells))) := by simp [OpQ, quietWp, isCall, opWp]
theorem o_ixvS {u : List UInt8} : OpS P .ixvS [.str u, .int k a] dst r K s = (0 ≤ a ∧ a < u.length ∧ opsWp P r K (s.put dst (.int .u8 (u.getD a.toNat 0).toNat))) := by simp [OpS, OcWp, isCall, opWp]
theorem p_ixvS {u : List UInt8} : OpQ P .ixvS [.str u, .int k a] dst rq K s = (0 ≤ a ∧ a < u.length ∧ opsQ P rq K (s.put dst (.int .u8 (u.getD a.toNat 0).toNat))) := by simp [OpQ, quietWp, isCall, opWp]
theorem o_slTF {u : List UInt8} : OpS P (.slcS true false) [.str u, .int k a] dst r K s = (0 ≤ a ∧ a ≤ u.length ∧ opsWp P r K (s.put dst (.str (u.drop a.toNat)))) := by simp [OpS, OcWp, isCall, opWp]
theorem p_slTF {u : List UInt8} : OpQ P (.slcS true false) [.str u, .int k a] dst rq K s = (0 ≤ a ∧ a ≤ u.length ∧ opsQ P rq K (s.put dst (.str (u.drop a.toNat)))) := by simp [OpQ, quietWp, isCall, opWp]
theorem o_slFT {u : List UInt8} : OpS P (.slcS false true) [.str u, .int k a] dst r K s = (0 ≤ a ∧ a ≤ u.length ∧ opsWp P r K (s.put dst (.str (u.take a.toNat)))) := by simp [OpS, OcWp, isCall, opWp]
theorem p_slFT {u : List UInt8} : OpQ P (.slcS false true) [.str u, .int k a] dst rq K s = (0 ≤ a ∧ a ≤ u.length ∧ opsQ P rq K (s.put dst (.str (u.take a.toNat)))) := by simp [OpQ, quietWp, isCall, opWp]
theorem o_slTT {u : List UInt8} : OpS P (.slcS true true) [.str u, .int k a, .int k' b] dst r K s = (0 ≤ a ∧ a ≤ b ∧ b ≤ u.length ∧ opsWp P r K (s.put dst (.str ((u.take b.toNat).drop a.toNat)))) := by simp [OpS, OcWp, isCall, opWp]
theorem p_slTT {u : List UInt8} : OpQ P (.slcS true true) [.str u, .int k a, .int k' b] dst rq K s = (0 ≤ a ∧ a ≤ b ∧ b ≤ u.length ∧ opsQ P rq K (s.put dst (.str ((u.take b.toNat).drop a.toNat)))) := by simp [OpQ, quietWp, isCall, opWp]
theorem o_ext {i : Nat} : OpS P (.ext i) [.tup ds] dst r K s = (i < ds.length ∧ opsWp P r K (s.put dst (ds.getD i .undef))) := by simp [OpS, OcWp, isCall, opWp]
theorem p_ext {i : Nat} : OpQ P (.ext i) [.tup ds] dst rq K s = (i < ds.length ∧ opsQ P rq K (s.put dst (ds.getD i .undef))) := by simp [OpQ, quietWp, isCall, opWp]
theorem o_lenA {n : Nat} : OpS P (.lenA n) ds dst r K s = opsWp P r K (s.put dst (.int .i64 n)) := by simp [OpS, OcWp, isCall, opWp]
theorem p_lenA {n : Nat} : OpQ P (.lenA n) ds dst rq K s = opsQ P rq K (s.put dst (.int .i64 n)) := by simp [OpQ, quietWp, isCall, opWp]
theorem o_lenS {u : List UInt8} : OpS P .lenS [.str u] dst r K s = opsWp P r K (s.put dst (.int .i64 u.length)) := by simp [OpS, OcWp, isCall, opWp]
theorem p_lenS {u : List UInt8} : OpQ P .lenS [.str u] dst rq K s = opsQ P rq K (s.put dst (.int .i64 u.length)) := by simp [OpQ, quietWp, isCall, opWp]
theorem o_lenL {es : List D} {own : Own} : OpS P .lenL [.slice es own] dst r K s = opsWp P r K (s.put dst (.int .i64 es.length)) := by simp [OpS, OcWp, isCall, opWp]
theorem p_lenL {es : List D} {own : Own} : OpQ P .lenL [.slice es own] dst rq K s = opsQ P rq K (s.put dst (.int .i64 es.length)) := by simp [OpQ, quietWp, isCall, opWp]
theorem o_lenN : OpS P .lenL [.lit (.slice none 0 0)] dst r K s = opsWp P r K (s.put dst (.int .i64 0)) := by simp [OpS, OcWp, isCall, opWp]
theorem p_lenN : OpQ P .lenL [.lit (.slice none 0 0)] dst rq K s = opsQ P rq K (s.put dst (.int .i64 0)) := by simp [OpQ, quietWp, isCall, opWp]
theorem o_min : OpS P .minI (.int k a :: ds) dst r K s = MmS P k (foldI (fun a b => if b < a then b else a) k a ds) dst r K s := by simp [OpS, OcWp, isCall, opWp, mmWp, MmS]
theorem p_min : OpQ P .minI (.int k a :: ds) dst rq K s = MmQ P k (foldI (fun a b => if b < a then b else a) k a ds) dst rq K s := by simp [OpQ, quietWp, isCall, opWp, mmWp, MmQ]
theorem o_minS {a b : List UInt8} : OpS P .minI [.str a, .str b] dst r K s = opsWp P r K (s.put dst (.str (if Op.bytesLess a b || a == b then a else b))) := by simp [OpS, OcWp, isCall, opWp, mmWp]
theorem o_maxS {a b : List UInt8} : OpS P .maxI [.str a, .str b] dst r K s = opsWp P r K (s.put dst (.str (if Op.bytesLess a b then b else a))) := by simp [OpS, OcWp, isCall, opWp, mmWp]
attribute [go_sem] o_minS o_maxS
theorem o_max : OpS P .maxI (.int k a :: ds) dst r K s = MmS P k (foldI (fun a b => if b > a then b else a) k a ds) dst r K s := by simp [OpS, OcWp, isCall, opWp, mmWp, MmS]
theorem p_max : OpQ P .maxI (.int k a :: ds) dst rq K s = MmQ P k (foldI (fun a b => if b > a then b else a) k a ds) dst rq K s := by simp [OpQ, quietWp, isCall, opWp, mmWp, MmQ]
theorem q_mmS : MmS P k (some a) dst r K s = opsWp P r K (s.put dst (.int k a)) := by simp [MmS]
theorem q_mmQ : MmQ P k (some a) dst rq K s = opsQ P rq K (s.put dst (.int k a)) := by simp [MmQ]
theorem o_mkI {t : Nat} : OpS P (.mkI t) [x] dst r K s = opsWp P r K (s.put dst (.iface t x)) := by simp [OpS, OcWp, isCall, opWp]
theorem p_mkI {t : Nat} : OpQ P (.mkI t) [x] dst rq K s = opsQ P rq K (s.put dst (.iface t x)) := by simp [OpQ, quietWp, isCall, opWp]
theorem o_mkF {f : Fn} {n : Nat} : OpS P (.mkF f n) ds dst r K s = opsWp P r K (s.put dst (.fn f (ds.take n) (ds.drop n))) := by simp [OpS, OcWp, isCall, opWp]
theorem p_mkF {f : Fn} {n : Nat} : OpQ P (.mkF f n) ds dst rq K s = opsQ P rq K (s.put dst (.fn f (ds.take n) (ds.drop n))) := by simp [OpQ, quietWp, isCall, opWp]
theorem o_cvS {u : List UInt8} : OpS P .cvS [.str u] dst r K s = opsWp P r K (s.put dst (.str u)) := by simp [OpS, OcWp, isCall, opWp]
theorem p_cvS {u : List UInt8} : OpQ P .cvS [.str u] dst rq K s = opsQ P rq K (s.put dst (.str u)) := by simp [OpQ, quietWp, isCall, opWp]
theorem o_lenM {bk n off len cap : Nat} : OpS P .lenL [.sl bk n off len cap] dst r K s = opsWp P r K (s.put dst (.int .i64 len)) := by simp [OpS, OcWp, isCall, opWp]
theorem p_lenM {bk n off len cap : Nat} : OpQ P .lenL [.sl bk n off len cap] dst rq K s = opsQ P rq K (s.put dst (.int .i64 len)) := by simp [OpQ, quietWp, isCall, opWp]
theorem o_lenG {t n : Nat} : OpS P .lenL [.gs t n] dst r K s = opsWp P r K (s.put dst (.int .i64 n)) := by simp [OpS, OcWp, isCall, opWp]
theorem p_lenG {t n : Nat} : OpQ P .lenL [.gs t n] dst rq K s = opsQ P rq K (s.put dst (.int .i64 n)) := by simp [OpQ, quietWp, isCall, opWp]
theorem o_ixaM {n bk n' off len cap : Nat} : OpS P (.ixaS n) [.sl bk n' off len cap, .int k a] dst r K s = (0 ≤ a ∧ a < len ∧ len ≤ cap ∧ n' = n ∧ opsWp P r K (s.put dst (.ptr bk (off + a.toNat * n)))) := by simp [OpS, OcWp, isCall, opWp]
theorem p_ixaM {n bk n' off len cap : Nat} : OpQ P (.ixaS n) [.sl bk n' off len cap, .int k a] dst rq K s = (0 ≤ a ∧ a < len ∧ len ≤ cap ∧ n' = n ∧ opsQ P rq K (s.put dst (.ptr bk (off + a.toNat * n)))) := by simp [OpQ, quietWp, isCall, opWp]
theorem o_ixaG {n t m : Nat} : OpS P (.ixaS n) [.gs t m, .int k a] dst r K s = (0 ≤ a ∧ a < m ∧ opsWp P r K (s.put dst (.gp t m (a.toNat * n)))) := by simp [OpS, OcWp, isCall, opWp]
theorem p_ixaG {n t m : Nat} : OpQ P (.ixaS n) [.gs t m, .int k a] dst rq K s = (0 ≤ a ∧ a < m ∧ opsQ P rq K (s.put dst (.gp t m (a.toNat * n)))) := by simp [OpQ, quietWp, isCall, opWp]
theorem o_fldg {off t m o : Nat} : OpS P (.fld off) [.gp t m o] dst r K s = opsWp P r K (s.put dst (.gp t m (o + off))) := by simp [OpS, OcWp, isCall, opWp]
theorem p_fldg {off t m o : Nat} : OpQ P (.fld off) [.gp t m o] dst rq K s = opsQ P rq K (s.put dst (.gp t m (o + off))) := by simp [OpQ, quietWp, isCall, opWp]
theorem o_rng {u : List UInt8} : OpS P .rngS [.str u] dst r K s = opsWp P r K ({ s with hp := { s.hp with H := s.hp.H ++ [Blk.siter u 0] } }.put dst (.ptr s.hp.H.length 0)) := by simp [OpS, OcWp, isCall, opWp]
theorem o_ldg {ag : Bool} {n t m off : Nat} : OpS P (.ld ag n) [.gp t m off] dst r K s = LgS P ag n (s.hp.tk[t]?) m off dst r K s := by simp [OpS, OcWp, isCall, opWp, LgS]
theorem p_ldg {ag : Bool} {n t m off : Nat} : OpQ P (.ld ag n) [.gp t m off] dst rq K s = LgQ P ag n (s.hp.tk[t]?) m off dst rq K s := by simp [OpQ, quietWp, isCall, opWp, LgQ]
theorem q_lgST {n k' m off : Nat} {cs : List D} : LgS P true n (some (.chg k' cs)) m off dst r K s = (cs.length = m * k' ∧ off + n ≤ cs.length ∧ opsWp P r K (s.put dst (.agg ((cs.drop off).take n)))) := by
  simp only [LgS, Option.some.injEq, Tv.chg.injEq, if_true]
  exact propext ⟨fun ⟨_, _, ⟨h1, h2⟩, h3, h4, h5⟩ => by subst h1; subst h2; exact ⟨h3, h4, h5⟩, fun ⟨h3, h4, h5⟩ => ⟨_, _, ⟨rfl, rfl⟩, h3, h4, h5⟩⟩
theorem q_lgSF {n k' m off : Nat} {cs : List D} : LgS P false n (some (.chg k' cs)) m off dst r K s = (cs.length = m * k' ∧ off + n ≤ cs.length ∧ opsWp P r K (s.put dst (cs.getD off .undef))) := by
  simp only [LgS, Option.some.injEq, Tv.chg.injEq, Bool.false_eq_true, if_false]
  exact propext ⟨fun ⟨_, _, ⟨h1, h2⟩, h3, h4, h5⟩ => by subst h1; subst h2; exact ⟨h3, h4, h5⟩, fun ⟨h3, h4, h5⟩ => ⟨_, _, ⟨rfl, rfl⟩, h3, h4, h5⟩⟩
theorem q_lgQT {n k' m off : Nat} {cs : List D} : LgQ P true n (some (.chg k' cs)) m off dst rq K s = (cs.length = m * k' ∧ off + n ≤ cs.length ∧ opsQ P rq K (s.put dst (.agg ((cs.drop off).take n)))) := by
  simp only [LgQ, Option.some.injEq, Tv.chg.injEq, if_true]
  exact propext ⟨fun ⟨_, _, ⟨h1, h2⟩, h3, h4, h5⟩ => by subst h1; subst h2; exact ⟨h3, h4, h5⟩, fun ⟨h3, h4, h5⟩ => ⟨_, _, ⟨rfl, rfl⟩, h3, h4, h5⟩⟩
theorem q_lgQF {n k' m off : Nat} {cs : List D} : LgQ P false n (some (.chg k' cs)) m off dst rq K s = (cs.length = m * k' ∧ off + n ≤ cs.length ∧ opsQ P rq K (s.put dst (cs.getD off .undef))) := by
  simp only [LgQ, Option.some.injEq, Tv.chg.injEq, Bool.false_eq_true, if_false]
  exact propext ⟨fun ⟨_, _, ⟨h1, h2⟩, h3, h4, h5⟩ => by subst h1; subst h2; exact ⟨h3, h4, h5⟩, fun ⟨h3, h4, h5⟩ => ⟨_, _, ⟨rfl, rfl⟩, h3, h4, h5⟩⟩
theorem o_stg {n t m off : Nat} : OpS P (.st n) [.gp t m off, x] dst r K s = SgS P n (s.hp.tk[t]?) t m off x dst r K s := by simp [OpS, OcWp, isCall, opWp, SgS]
theorem q_sgS {n t m off k' : Nat} {cs : List D} : SgS P n (some (.chg k' cs)) t m off x dst r K s = (cs.length = m * k' ∧ x.isVal = true ∧ x.cells.length = n ∧ off + n ≤ cs.length ∧ opsWp P r K ({ s with hp := { s.hp with tk := s.hp.tk.set t (.chg k' (setL cs off x.cells)) } }.put dst .skip)) := by
  simp only [SgS, Option.some.injEq, Tv.chg.injEq]
  exact propext ⟨fun ⟨_, _, ⟨h1, h2⟩, h3⟩ => by subst h1; subst h2; exact h3, fun h3 => ⟨_, _, ⟨rfl, rfl⟩, h3⟩⟩
section
variable {es xs : List D} {n bytes : Nat} {ety : TypeId}
theorem s_bsl (he : elemsK n ds = true) (hl : ds.length * n ≤ 16777216) (hc : D.closedL ds = true) (h : opsWp P r K (s.put dst (.slice (D.erL ds) .full))) : OpS P (.bsl n) ds dst r K s := by
  simp only [OpS, OcWp, isCall, Bool.false_eq_true, if_false, opWp]; exact ⟨he, hl, .inl ⟨hc, h⟩⟩
theorem t_bsl (he : elemsK n ds = true) (hl : ds.length * n ≤ 16777216) (hc : D.closedL ds = true) (h : opsQ P rq K (s.put dst (.slice (D.erL ds) .full))) : OpQ P (.bsl n) ds dst rq K s := by
  simp only [OpQ, quietWp, isCall, Bool.false_eq_true, if_false, opWp]; exact ⟨he, hl, .inl ⟨hc, by trivial, h⟩⟩
theorem s_mks {z : List D} (h0 : 0 ≤ a) (h1 : a ≤ b) (h2 : roomOk b.toNat bytes) (h : opsWp P r K ({ s with hp := { s.hp with H := s.hp.H ++ [Blk.cells (zeros z b.toNat)] } }.put dst (.sl s.hp.H.length n 0 a.toNat b.toNat))) : OpS P (.mks n bytes z) [.int k a, .int k' b] dst r K s := by
  simp only [OpS, OcWp, isCall, Bool.false_eq_true, if_false, opWp]; exact ⟨h0, h1, h2, .inl h⟩
theorem s_appT {t : Nat} (he : elemsOf s.hp n x = some es) (hK : elemsK n es = true) (hc : D.closedL es = true) (hr : roomOk (xs.length + es.length) bytes) (hV : s.hp.tk[t]? = some (.per n xs.length))
    (h : opsWp P r K ({ s with hp := { s.hp with tk := s.hp.tk.set t (.per n (xs.length + es.length)) } }.put dst (.slice (xs ++ D.erL es) (.tok t)))) : OpS P (.app n bytes ety) [.slice xs (.tok t), x] dst r K s := by
  simp only [OpS, OcWp, isCall, Bool.false_eq_true, if_false, opWp]; exact ⟨es, he, hK, hr, hc, hV, h⟩
theorem s_appG {t m : Nat} {cs : List D} (he : elemsOf s.hp n x = some es) (hK : elemsK n es = true) (hr : roomOk (m + es.length) bytes) (hV : s.hp.tk[t]? = some (.chg n cs)) (hl : cs.length = m * n)
    (h : opsWp P r K ({ s with hp := { s.hp with tk := s.hp.tk.set t (.chg n (cs ++ flatD es)) } }.put dst (.gs t (m + es.length)))) : OpS P (.app n bytes ety) [.gs t m, x] dst r K s := by
  simp only [OpS, OcWp, isCall, Bool.false_eq_true, if_false, opWp]; exact ⟨es, he, hK, hr, .inl ⟨cs, hV, hl, h⟩⟩
theorem s_app0 (he : elemsOf s.hp n x = some es) (hK : elemsK n es = true) (hc : D.closedL es = true) (hr : roomOk es.length bytes) (h : opsWp P r K (s.put dst (.slice (D.erL es) .no))) : OpS P (.app n bytes ety) [.lit (.slice none 0 0), x] dst r K s := by
  simp only [OpS, OcWp, isCall, Bool.false_eq_true, if_false, opWp]; exact ⟨es, he, hK, hr, .inl ⟨hc, .inl h⟩⟩
theorem t_app0 (he : elemsOf s.hp n x = some es) (hK : elemsK n es = true) (hc : D.closedL es = true) (hr : roomOk es.length bytes) (h : opsQ P rq K (s.put dst (.slice (D.erL es) .no))) : OpQ P (.app n bytes ety) [.lit (.slice none 0 0), x] dst rq K s := by
  simp only [OpQ, quietWp, isCall, Bool.false_eq_true, if_false, opWp]; exact ⟨es, he, hK, hr, .inl ⟨hc, .inl ⟨by trivial, h⟩⟩⟩
theorem s_app0G (he : elemsOf s.hp n x = some es) (hK : elemsK n es = true) (hr : roomOk es.length bytes) (h : opsWp P r K ({ s with hp := { s.hp with tk := s.hp.tk ++ [Tv.chg n (flatD es)] } }.put dst (.gs s.hp.tk.length es.length))) : OpS P (.app n bytes ety) [.lit (.slice none 0 0), x] dst r K s := by
  simp only [OpS, OcWp, isCall, Bool.false_eq_true, if_false, opWp]; exact ⟨es, he, hK, hr, .inr h⟩
theorem s_appF (he : elemsOf s.hp n x = some es) (hK : elemsK n es = true) (hc : D.closedL es = true) (hr : roomOk (xs.length + es.length) bytes) (hx : elemsK n xs = true) (hn : 0 < n) (h : opsWp P r K (s.put dst (.slice (xs ++ D.erL es) .no))) : OpS P (.app n bytes ety) [.slice xs .full, x] dst r K s := by
  simp only [OpS, OcWp, isCall, Bool.false_eq_true, if_false, opWp]; exact ⟨es, he, hK, hr, .inl ⟨hc, hx, hn, .inl h⟩⟩
theorem t_appF (he : elemsOf s.hp n x = some es) (hK : elemsK n es = true) (hc : D.closedL es = true) (hr : roomOk (xs.length + es.length) bytes) (hx : elemsK n xs = true) (hn : 0 < n) (h : opsQ P rq K (s.put dst (.slice (xs ++ D.erL es) .no))) : OpQ P (.app n bytes ety) [.slice xs .full, x] dst rq K s := by
  simp only [OpQ, quietWp, isCall, Bool.false_eq_true, if_false, opWp]; exact ⟨es, he, hK, hr, .inl ⟨hc, hx, hn, .inl ⟨by trivial, h⟩⟩⟩
theorem s_slFF {own : Own} (hx : elemsK n xs = true) (h : opsWp P r K (s.put dst (.slice xs .no))) : OpS P (.slcL n false false) [.slice xs own] dst r K s := by
  simp only [OpS, OcWp, isCall, Bool.false_eq_true, if_false, opWp]
  exact ⟨0, xs.length, ⟨rfl, rfl⟩, by omega, by omega, by simp [dlen], hx, by simpa using h⟩
theorem s_slTF {own : Own} (h0 : 0 ≤ a) (h1 : a ≤ xs.length) (hx : elemsK n xs = true) (h : opsWp P r K (s.put dst (.slice (xs.drop a.toNat) .no))) : OpS P (.slcL n true false) [.slice xs own, .int k a] dst r K s := by
  simp only [OpS, OcWp, isCall, Bool.false_eq_true, if_false, opWp]
  exact ⟨a, xs.length, ⟨rfl, rfl⟩, h0, h1, by simp [dlen], hx, by simpa using h⟩
theorem s_slFT {own : Own} (h0 : 0 ≤ a) (h1 : a ≤ xs.length) (hx : elemsK n xs = true) (h : opsWp P r K (s.put dst (.slice (xs.take a.toNat) .no))) : OpS P (.slcL n false true) [.slice xs own, .int k a] dst r K s := by
  simp only [OpS, OcWp, isCall, Bool.false_eq_true, if_false, opWp]
  exact ⟨0, a, ⟨rfl, rfl⟩, by omega, h0, by simpa [dlen] using h1, hx, by simpa using h⟩
theorem s_slTT {own : Own} (h0 : 0 ≤ a) (h1 : a ≤ b) (h2 : b ≤ xs.length) (hx : elemsK n xs = true) (h : opsWp P r K (s.put dst (.slice ((xs.take b.toNat).drop a.toNat) .no))) : OpS P (.slcL n true true) [.slice xs own, .int k a, .int k' b] dst r K s := by
  simp only [OpS, OcWp, isCall, Bool.false_eq_true, if_false, opWp]
  exact ⟨a, b, ⟨rfl, rfl⟩, h0, h1, by simpa [dlen] using h2, hx, h⟩
theorem s_smTF {bk off len cap : Nat} (h0 : 0 ≤ a) (h1 : a ≤ len) (hc : len ≤ cap) (h : opsWp P r K (s.put dst (.sl bk n (off + a.toNat * n) (len - a.toNat) (cap - a.toNat)))) : OpS P (.slcL n true false) [.sl bk n off len cap, .int k a] dst r K s := by
  simp only [OpS, OcWp, isCall, Bool.false_eq_true, if_false, opWp]
  exact ⟨a, len, ⟨rfl, rfl⟩, h0, h1, by simp [dlen], trivial, hc, by simpa using h⟩
theorem s_smFT {bk off len cap : Nat} (h0 : 0 ≤ a) (h1 : a ≤ len) (hc : len ≤ cap) (h : opsWp P r K (s.put dst (.sl bk n off a.toNat cap))) : OpS P (.slcL n false true) [.sl bk n off len cap, .int k a] dst r K s := by
  simp only [OpS, OcWp, isCall, Bool.false_eq_true, if_false, opWp]
  exact ⟨0, a, ⟨rfl, rfl⟩, by omega, h0, by simpa [dlen] using h1, trivial, hc, by simpa using h⟩
theorem s_smTT {bk off len cap : Nat} (h0 : 0 ≤ a) (h1 : a ≤ b) (h2 : b ≤ len) (hc : len ≤ cap) (h : opsWp P r K (s.put dst (.sl bk n (off + a.toNat * n) (b.toNat - a.toNat) (cap - a.toNat)))) : OpS P (.slcL n true true) [.sl bk n off len cap, .int k a, .int k' b] dst r K s := by
  simp only [OpS, OcWp, isCall, Bool.false_eq_true, if_false, opWp]
  exact ⟨a, b, ⟨rfl, rfl⟩, h0, h1, by simpa [dlen] using h2, trivial, hc, h⟩
theorem s_clr {bk off len cap : Nat} {cs z : List D} (h1 : s.hp.H[bk]? = some (.cells cs)) (h2 : off + len * n ≤ cs.length) (h3 : len ≤ cap)
    (h : opsWp P r K ({ s with hp := { s.hp with H := s.hp.H.set bk (.cells (setL cs off (zeros z len))) } }.put dst (.tup []))) : OpS P (.clr n z) [.sl bk n off len cap] dst r K s := by
  simp only [OpS, OcWp, isCall, Bool.false_eq_true, if_false, opWp, clrWp]; exact ⟨cs, h1, trivial, h3, h2, h⟩
theorem o_newM : OpS P .newM [] dst r K s = opsWp P r K ({ s with hp := { s.hp with H := s.hp.H ++ [Blk.map [] 0] } }.put dst (.mp s.hp.H.length)) := by simp [OpS, OcWp, isCall, opWp]
theorem s_mpu {kd : MK} {bk clock : Nat} {es : List (D × D × Nat)} {k v : D} {B : Blk} (h1 : s.hp.H[bk]? = some (.map es clock)) (hk : keyOk kd k = true) (ha : (es.all fun e => keyOk kd e.1) = true) (hp : putM es clock k v = B)
    (h : opsWp P r K ({ s with hp := { s.hp with H := s.hp.H.set bk B } }.put dst .skip)) : OpS P (.mpu kd) [.mp bk, k, v] dst r K s := by
  subst hp
  simp only [OpS, OcWp, isCall, Bool.false_eq_true, if_false, opWp]; exact ⟨es, clock, h1, hk, ha, h⟩
theorem s_lkpS {kd : MK} {ok : Bool} {zero : D} {bk clock i : Nat} {es : List (D × D × Nat)} {k v : D} (h1 : s.hp.H[bk]? = some (.map es clock)) (hk : keyOk kd k = true) (ha : (es.all fun e => keyOk kd e.1) = true) (hf : findM k es 0 = some (i, v))
    (h : opsWp P r K (s.put dst (if ok then .tup [v, .bool true] else v))) : OpS P (.lkp kd ok zero) [.mp bk, k] dst r K s := by
  simp only [OpS, OcWp, isCall, Bool.false_eq_true, if_false, opWp]
  refine ⟨es, clock, h1, hk, ha, fun j x hx => ?_, fun hx => ?_⟩
  · rw [hf] at hx; cases hx; exact h
  · rw [hf] at hx; cases hx
theorem s_lkpN {kd : MK} {ok : Bool} {zero : D} {bk clock : Nat} {es : List (D × D × Nat)} {k : D} (h1 : s.hp.H[bk]? = some (.map es clock)) (hk : keyOk kd k = true) (ha : (es.all fun e => keyOk kd e.1) = true) (hf : findM k es 0 = none)
    (h : opsWp P r K (s.put dst (if ok then .tup [zero, .bool false] else zero))) : OpS P (.lkp kd ok zero) [.mp bk, k] dst r K s := by
  simp only [OpS, OcWp, isCall, Bool.false_eq_true, if_false, opWp]
  refine ⟨es, clock, h1, hk, ha, fun j x hx => ?_, fun hx => ?_⟩
  · rw [hf] at hx; cases hx
  · exact h
theorem o_eff {f : FuncId} {first cap ds' : List D} {hp0 : Hp} {R : D → Hp → Prop} (bl tl : List Nat) (h : Eff P f ds' hp0 R) (hs : SelOk s.hp bl tl) (hd : D.rnL (posF bl) (posF tl) (first ++ ds ++ cap) = ds') (hh : s.hp.sel bl tl = hp0)
    (hk : ∀ d hp1, R d hp1 → opsWp P r K ({ s with hp := s.hp.back bl tl hp1 }.put dst (d.rn (bakF bl s.hp.H.length) (bakF tl s.hp.tk.length)))) : OpS P .call (.fn (.func f) first cap :: ds) dst r K s := by
  unfold OpS OcWp
  simp only [isCall, if_true]
  exact call_eff bl tl h hs hd hh hk
end
theorem o_call {f : FuncId} {first cap : List D} {d : D} {ds' : List D} (h : Pur P f ds' d) (he : D.erL (first ++ ds ++ cap) = ds') (hc : D.closedL (first ++ ds ++ cap) = true) (hk : opsWp P r K (s.put dst d)) :
    OpS P .call (.fn (.func f) first cap :: ds) dst r K s := by
  unfold OpS OcWp
  simp only [isCall, if_true]
  exact call_pur hc (he ▸ h) hk
theorem c_call {f : FuncId} {first cap : List D} {d : D} {ds' : List D} (h : Pur P f ds' d) (he : D.erL (first ++ ds ++ cap) = ds') (hc : D.closedL (first ++ ds ++ cap) = true) (hk : opsQ P rq K (s.put dst d)) :
    OpC P .call (.fn (.func f) first cap :: ds) dst rq K s := by
  unfold OpC detWp OcWp
  simp only [isCall, if_true]
  exact ⟨d, s.hp, call_pur hc (he ▸ h) ⟨rfl, rfl⟩, hk⟩
theorem p_call {f : FuncId} {first cap : List D} {d : D} {ds' : List D} (h : Pur P f ds' d) (he : D.erL (first ++ ds ++ cap) = ds') (hc : D.closedL (first ++ ds ++ cap) = true) (hk : opsQ P rq K (s.put dst d)) :
    OpQ P .call (.fn (.func f) first cap :: ds) dst rq K s := by
  unfold OpQ quietWp CallQ
  simp only [isCall, if_true]
  exact ⟨d, call_pur hc (he ▸ h) ⟨rfl, rfl⟩, hk⟩
end
section
variable {P : Mod} {oc : OC} {args : List Opd} {dst : Dst} {r : List RO} {rq : List (RO × Bool)} {qf : Bool} {K : St → Prop} {s : St} {g : Opd} {want : Bool} {C : Cfg} {Q : Ex → St → Prop} {x y : RC}
def CdS (C : Cfg) (b : D) (g : Opd) (x y : RC) (Q : Ex → St → Prop) (s : St) : Prop :=
  match b with
  | .bool t => (t = true → SWp C x Q (s.setO g (.bool true))) ∧ (t = false → SWp C y Q (s.setO g (.bool false)))
  | _ => False
theorem swp_cd (h : CdS C (s.get g) g x y Q s) : SWp C (.cond g x y) Q s := by
  unfold CdS at h
  split at h
  · rename_i t ht; exact swp_cond ht h.1 h.2
  · exact h.elim
theorem e_cdT : CdS C (.bool true) g x y Q s = SWp C x Q (s.setO g (.bool true)) := by simp [CdS]
theorem e_cdF : CdS C (.bool false) g x y Q s = SWp C y Q (s.setO g (.bool false)) := by simp [CdS]
theorem cd_split {c : Bool} (h1 : c = true → SWp C x Q (s.setO g (.bool true))) (h2 : c = false → SWp C y Q (s.setO g (.bool false))) : CdS C (.bool c) g x y Q s := ⟨h1, h2⟩
theorem cd_dec {p : Prop} [Decidable p] (h1 : p → SWp C x Q (s.setO g (.bool true))) (h2 : ¬p → SWp C y Q (s.setO g (.bool false))) : CdS C (.bool (decide p)) g x y Q s :=
  ⟨fun h => h1 (of_decide_eq_true h), fun h => h2 (of_decide_eq_false h)⟩
theorem cd_eq {a b : Int} (h1 : a = b → SWp C x Q (s.setO g (.bool true))) (h2 : a ≠ b → SWp C y Q (s.setO g (.bool false))) : CdS C (.bool (a == b)) g x y Q s :=
  ⟨fun h => h1 (by simpa using h), fun h => h2 (by simpa using h)⟩
theorem cd_ne {a b : Int} (h1 : a ≠ b → SWp C x Q (s.setO g (.bool true))) (h2 : a = b → SWp C y Q (s.setO g (.bool false))) : CdS C (.bool (a != b)) g x y Q s :=
  ⟨fun h => h1 (by simpa using h), fun h => h2 (by simpa using h)⟩
theorem gd_dec {p : Prop} [Decidable p] (h1 : p → GdS P (.bool true) g want dst oc args r K s) (h2 : ¬p → GdS P (.bool false) g want dst oc args r K s) : GdS P (.bool (decide p)) g want dst oc args r K s :=
  gd_split (fun h => h1 (of_decide_eq_true h)) (fun h => h2 (of_decide_eq_false h))
theorem gd_eq {a b : Int} (h1 : a = b → GdS P (.bool true) g want dst oc args r K s) (h2 : a ≠ b → GdS P (.bool false) g want dst oc args r K s) : GdS P (.bool (a == b)) g want dst oc args r K s :=
  gd_split (fun h => h1 (by simpa using h)) (fun h => h2 (by simpa using h))
theorem gd_ne {a b : Int} (h1 : a ≠ b → GdS P (.bool true) g want dst oc args r K s) (h2 : a = b → GdS P (.bool false) g want dst oc args r K s) : GdS P (.bool (a != b)) g want dst oc args r K s :=
  gd_split (fun h => h1 (by simpa using h)) (fun h => h2 (by simpa using h))
theorem gq_dec {p : Prop} [Decidable p] (h1 : p → GdQ P qf (.bool true) g want dst oc args rq K s) (h2 : ¬p → GdQ P qf (.bool false) g want dst oc args rq K s) : GdQ P qf (.bool (decide p)) g want dst oc args rq K s :=
  gq_split (fun h => h1 (of_decide_eq_true h)) (fun h => h2 (of_decide_eq_false h))
theorem gq_eq {a b : Int} (h1 : a = b → GdQ P qf (.bool true) g want dst oc args rq K s) (h2 : a ≠ b → GdQ P qf (.bool false) g want dst oc args rq K s) : GdQ P qf (.bool (a == b)) g want dst oc args rq K s :=
  gq_split (fun h => h1 (by simpa using h)) (fun h => h2 (by simpa using h))
theorem gq_ne {a b : Int} (h1 : a ≠ b → GdQ P qf (.bool true) g want dst oc args rq K s) (h2 : a = b → GdQ P qf (.bool false) g want dst oc args rq K s) : GdQ P qf (.bool (a != b)) g want dst oc args rq K s :=
  gq_split (fun h => h1 (by simpa using h)) (fun h => h2 (by simpa using h))
theorem rr_slot {o : Opd} {K : D → Prop} : rrWp (.slot o) s K = K (s.get o) := propext Iff.rfl
def RcS (ag : Bool) (n : Nat) (p : D) (H : List Blk) (K : D → Prop) : Prop :=
  match p with
  | .ptr b off => ∃ cs, H[b]? = some (.cells cs) ∧ off + n ≤ cs.length ∧ K (if ag then .agg ((cs.drop off).take n) else cs.getD off .undef)
  | _ => False
theorem rr_cell {o : Opd} {ag : Bool} {n : Nat} {K : D → Prop} : rrWp (.cell o ag n) s K = RcS ag n (s.get o) s.hp.H K := by
  unfold rrWp RcS; rfl
def RcB (ag : Bool) (n off : Nat) (B : Option Blk) (K : D → Prop) : Prop := ∃ cs, B = some (.cells cs) ∧ off + n ≤ cs.length ∧ K (if ag then .agg ((cs.drop off).take n) else cs.getD off .undef)
theorem rr_ptr {ag : Bool} {n b off : Nat} {H : List Blk} {K : D → Prop} : RcS ag n (.ptr b off) H K = RcB ag n off (H[b]?) K := propext Iff.rfl
theorem rr_T {n off : Nat} {cs : List D} {K : D → Prop} : RcB true n off (some (.cells cs)) K = (off + n ≤ cs.length ∧ K (.agg ((cs.drop off).take n))) := by simp [RcB]
theorem rr_F {n off : Nat} {cs : List D} {K : D → Prop} : RcB false n off (some (.cells cs)) K = (off + n ≤ cs.length ∧ K (cs.getD off .undef)) := by simp [RcB]
theorem rs_nil {K : List D → Prop} : rrsWp [] s K = K [] := propext Iff.rfl
theorem rs_cons {r : RR} {rs : List RR} {K : List D → Prop} : rrsWp (r :: rs) s K = rrWp r s fun d => rrsWp rs s fun ds => K (d :: ds) := propext Iff.rfl
end
theorem w64 {n : Int} (h1 : -9223372036854775808 ≤ n) (h2 : n ≤ 9223372036854775807) : IntKind.i64.wrap n = n := by
  rw [IntKind.wrap_i64]
  omega
attribute [go_sem] o_cvS p_cvS o_lenM p_lenM o_lenG p_lenG o_ixaM p_ixaM o_ixaG p_ixaG o_fldg p_fldg o_rng o_ldg p_ldg q_lgST q_lgSF q_lgQT q_lgQF o_stg q_sgS
attribute [go_sem] f_stepD isCall qOp
attribute [go_sem] decide_true decide_false o_eqN n_nil n_emp n_cons n_sl e_nil e_step e_guard f_nil f_step f_guard g_tt g_tf g_ft g_ff g_sk h_tt h_tf h_ft h_ff h_sk o_mv p_mv o_pickT o_pickF p_pickT p_pickF o_add o_sub o_mul o_quo o_rem o_and o_or o_xor o_shl o_shr o_eql o_neq o_lss o_leq o_gtr o_geq p_add p_sub p_mul p_quo p_rem p_eql p_neq p_lss p_leq p_gtr p_geq o_cat o_seq o_sne o_slt p_cat p_seq p_sne p_slt o_beqF o_beqT p_beqF p_beqT o_eqA p_eqA q_eqSF q_eqST q_eqQF q_eqQT o_neg p_neg o_not p_not o_cvI p_cvI o_newb o_box o_bld p_bld q_blS q_blQ o_ldp p_ldp o_nckP p_nckP o_nckI p_nckI o_nckG p_nckG q_ldST q_ldSTt q_ldSFt q_ldQTt q_ldQFt q_stSt o_newT q_ldSF q_ldQT q_ldQF o_ldiT o_ldiF p_ldiT p_ldiF o_stp q_stS o_fldp p_fldp o_fldi p_fldi o_fvT o_fvF p_fvT p_fvF o_ixaA p_ixaA o_ixaS p_ixaS o_ixvS p_ixvS o_slTF p_slTF o_slFT p_slFT o_slTT p_slTT o_ext p_ext o_lenA p_lenA o_lenS p_lenS o_lenL p_lenL o_lenN p_lenN o_min p_min o_max p_max q_mmS q_mmQ o_mkI p_mkI o_mkF p_mkF e_cdT e_cdF rr_slot rr_cell rr_ptr rr_T rr_F rs_nil rs_cons
attribute [go_sem] St.get St.put St.setO setK St.done lk List.map_cons List.map_nil List.getD_cons_zero List.getD_cons_succ List.set_cons_zero List.set_cons_succ List.getElem?_cons_zero List.getElem?_cons_succ List.length_cons List.length_nil List.nil_append List.cons_append List.drop_zero List.drop_succ_cons List.take_zero List.take_succ_cons List.drop_nil List.take_nil D.isVal D.cells fillL setL eqDs eqD foldI Nat.succ_eq_add_one Nat.le_refl Nat.zero_add Nat.add_zero Int.toNat_natCast ite_true ite_false ne_eq not_false_eq_true not_true_eq_false true_and and_true and_self Bool.false_eq_true Bool.not_true Bool.not_false Bool.and_true Bool.true_and decide_eq_true_eq oneOrTup D.closed D.closedL D.er D.erL D.rn D.rnL Own.rn Blk.rn Tv.rn Blk.rnL Tv.rnL Hp.back Hp.sel putAt posF bakF idx flatD zeros
section
variable {P P' : Mod} {C : Cfg} {oc : OC} {args : List Opd} {dst : Dst} {r : List RO} {rq : List (RO × Bool)} {qf : Bool} {K : St → Prop} {s s' : St} {g : Opd} {want ag neg : Bool} {x y : RC} {b b' : D} {ds ds' : List D} {B B' : Option Blk} {off off' n bk bk' : Nat} {v v' : D} {k : IntKind} {Q : Ex → St → Prop}
/- Where simp looks: at the program, the values and the state; never at the code that is still to come. -/
@[congr] theorem cg_ops (h1 : P = P') (h2 : s = s') : opsWp P r K s = opsWp P' r K s' := by rw [h1, h2]
@[congr] theorem cg_opsQ (h1 : P = P') (h2 : s = s') : opsQ P rq K s = opsQ P' rq K s' := by rw [h1, h2]
@[congr] theorem cg_OpS (h1 : P = P') (h2 : ds = ds') (h3 : s = s') : OpS P oc ds dst r K s = OpS P' oc ds' dst r K s' := by rw [h1, h2, h3]
@[congr] theorem cg_OpC (h1 : P = P') (h2 : ds = ds') (h3 : s = s') : OpC P oc ds dst rq K s = OpC P' oc ds' dst rq K s' := by rw [h1, h2, h3]
@[congr] theorem cg_OpQ (h1 : P = P') (h2 : ds = ds') (h3 : s = s') : OpQ P oc ds dst rq K s = OpQ P' oc ds' dst rq K s' := by rw [h1, h2, h3]
@[congr] theorem cg_GdS (h1 : P = P') (h2 : b = b') (h3 : s = s') : GdS P b g want dst oc args r K s = GdS P' b' g want dst oc args r K s' := by rw [h1, h2, h3]
@[congr] theorem cg_GdQ (h1 : P = P') (h2 : b = b') (h3 : s = s') : GdQ P qf b g want dst oc args rq K s = GdQ P' qf b' g want dst oc args rq K s' := by rw [h1, h2, h3]
@[congr] theorem cg_CdS (h2 : b = b') (h3 : s = s') : CdS C b g x y Q s = CdS C b' g x y Q s' := by rw [h2, h3]
@[congr] theorem cg_SWp (h3 : s = s') : SWp C x Q s = SWp C x Q s' := by rw [h3]
@[congr] theorem cg_LdS (h1 : P = P') (h2 : B = B') (h4 : off = off') (h3 : s = s') : LdS P ag n B off dst r K s = LdS P' ag n B' off' dst r K s' := by rw [h1, h2, h3, h4]
@[congr] theorem cg_LdQ (h1 : P = P') (h2 : B = B') (h4 : off = off') (h3 : s = s') : LdQ P ag n B off dst rq K s = LdQ P' ag n B' off' dst rq K s' := by rw [h1, h2, h3, h4]
@[congr] theorem cg_StS (h1 : P = P') (h2 : B = B') (h5 : bk = bk') (h4 : off = off') (h6 : v = v') (h3 : s = s') : StS P n B bk off v dst r K s = StS P' n B' bk' off' v' dst r K s' := by rw [h1, h2, h3, h4, h5, h6]
@[congr] theorem cg_LgS {V V' : Option Tv} {m m' : Nat} (h1 : P = P') (h2 : V = V') (h5 : m = m') (h4 : off = off') (h3 : s = s') : LgS P ag n V m off dst r K s = LgS P' ag n V' m' off' dst r K s' := by rw [h1, h2, h3, h4, h5]
@[congr] theorem cg_LgQ {V V' : Option Tv} {m m' : Nat} (h1 : P = P') (h2 : V = V') (h5 : m = m') (h4 : off = off') (h3 : s = s') : LgQ P ag n V m off dst rq K s = LgQ P' ag n V' m' off' dst rq K s' := by rw [h1, h2, h3, h4, h5]
@[congr] theorem cg_SgS {V V' : Option Tv} {m m' : Nat} (h1 : P = P') (h2 : V = V') (h5 : bk = bk') (h7 : m = m') (h4 : off = off') (h6 : v = v') (h3 : s = s') : SgS P n V bk m off v dst r K s = SgS P' n V' bk' m' off' v' dst r K s' := by rw [h1, h2, h3, h4, h5, h6, h7]
end
end GoV
end
section
set_option linter.unusedSimpArgs false
namespace GoV
open Go Go.RowKit
theorem gh_nil {w : World} {g : Gh} (h : HeapRel w g ⟨[], []⟩) : g = ⟨[], [], g.I⟩ := by
  have a1 := h.len
  have a2 := h.lent
  obtain ⟨r, tk, I⟩ := g
  have b1 : r = [] := List.eq_nil_of_length_eq_zero a1.symm
  have b2 : tk = [] := List.eq_nil_of_length_eq_zero a2.symm
  subst b1; subst b2; rfl
theorem heap_nil {w : World} {I : Nat → Nat → Prop} (hI : ∀ b o, I b o → b < w.heap.size) : HeapRel w ⟨[], [], I⟩ ⟨[], []⟩ :=
  ⟨rfl, by simp, by simp, by simp, rfl, by simp, by simp, by simp [blks], fun b o h => ⟨hI b o h, by simp⟩⟩
theorem inv_below {w w' : World} {I I' : Nat → Nat → Prop} (h : HeapRel w ⟨[], [], I⟩ ⟨[], []⟩) (hb : Below w.heap.size w w') (h1 : ∀ b o, I b o → I' b o) (h2 : ∀ b o, I' b o → I b o ∨ (w.heap.size ≤ b ∧ b < w'.heap.size)) :
    Inv w ⟨[], [], I⟩ ⟨[], []⟩ w' ⟨[], [], I'⟩ := by
  refine ⟨heap_nil fun b o ho => ?_, ⟨fun b o ho => ⟨h1 b o ho, cell_of_heap (hb.block b (h.imm b o ho).1)⟩, by simp, by simp⟩, ⟨hb.os, hb.tape, hb.output, hb.size, fun b hb' _ => hb.block b hb'⟩, by simp, by simp [blks], fun b o ho => ?_⟩
  · rcases h2 b o ho with q | q
    · exact Nat.lt_of_lt_of_le (h.imm b o q).1 hb.size
    · exact q.2
  · rcases h2 b o ho with q | q
    · exact .inl q
    · exact .inr (.inl q.1)
theorem pur_extM {M : Mod} {f : FuncId} {args : List D} {d : D} {vs : List Value} (hc : Callable M f) (ha : ∀ w g xs, RelL w g args xs → xs = vs)
    (h : ∀ w, M.amb w [] → Calls M.P f vs.toArray w fun e w' => ∃ v, e = .returned v ∧ Below w.heap.size w w' ∧
      ∀ I : Nat → Nat → Prop, ∃ I' : Nat → Nat → Prop, (∀ b o, I b o → I' b o) ∧ (∀ b o, I' b o → I b o ∨ (w.heap.size ≤ b ∧ b < w'.heap.size)) ∧ Rel w' ⟨[], [], I'⟩ d v) : Pur M f args d := by
  refine ⟨hc, fun w g xs hA hH hargs => ?_⟩
  have hg := gh_nil hH
  rw [hg] at hA hH ⊢
  rw [ha w _ xs hargs]
  refine (h w (by simpa [Gh.own, blks] using hA)).mono fun e w' hp => ?_
  obtain ⟨v, rfl, hb, hI⟩ := hp
  obtain ⟨I', h1, h2, h3⟩ := hI g.I
  exact ⟨v, d, ⟨[], []⟩, _, rfl, ⟨rfl, rfl⟩, inv_below hH hb h1 h2, h3⟩
theorem pur_ext {M : Mod} {f : FuncId} {args : List D} {d : D} {vs : List Value} {v : Value} (hc : Callable M f) (ha : ∀ w g xs, RelL w g args xs → xs = vs) (hd : ∀ w g, Rel w g d v)
    (h : ∀ w, M.amb w [] → Calls M.P f vs.toArray w fun e w' => e = .returned v ∧ Below w.heap.size w w') : Pur M f args d := by
  refine pur_extM hc ha fun w hA => (h w hA).mono fun e w' hp => ?_
  obtain ⟨rfl, hb⟩ := hp
  exact ⟨v, rfl, hb, fun I => ⟨I, fun _ _ h => h, fun _ _ h => .inl h, hd _ _⟩⟩
theorem calls_of_pur {M : Mod} {f : FuncId} {args : List D} {d : D} (h : Pur M f args d) {w : World} (hA : M.amb w []) {xs : List Value} (hargs : RelL w ⟨[], [], fun b _ => b < w.heap.size⟩ args xs) :
    Calls M.P f xs.toArray w fun e w' => ∃ v g', e = .returned v ∧ Rel w' g' d v ∧ Below w.heap.size w w' := by
  refine (h.2 w ⟨[], [], fun b _ => b < w.heap.size⟩ xs (by simpa [Gh.own, blks] using hA) (heap_nil fun b o hb => hb) hargs).mono fun e w' hp => ?_
  obtain ⟨v, d', hp', g', rfl, ⟨rfl, rfl⟩, g3, g4⟩ := hp
  exact ⟨v, g', rfl, g4, g3.keeps.os, g3.keeps.tape, g3.keeps.output, g3.keeps.size, fun k hk => g3.keeps.block k hk (by simp [Gh.own, blks])⟩
end GoV
end
section
namespace GoV
open Go
def St.keep (ks : List Nat) (s : St) : St := { s with env := keepE ks 0 s.env }
theorem swp_fam {C : Cfg} {x : RC} {Q : Ex → St → Prop} {s : St} {α : Type} (ks : List Nat) (f : α → St) (inv : α → Prop) (μ : α → Nat) (a0 : α) (h0 : inv a0) (e0 : s.keep ks = f a0)
    (round : ∀ a, inv a → SWp C x (fun e s' => match e with | .normal => ∃ a', inv a' ∧ μ a' < μ a ∧ s'.keep ks = f a' | e => Q e s') (f a)) : SWp C (.loop x) Q s := by
  refine swp_loop (fun n t => ∃ a, inv a ∧ μ a = n ∧ t = f a) (μ a0) ⟨_, weak_keep ks, a0, h0, rfl, e0⟩ ?_
  rintro n t ⟨a, h1, rfl, rfl⟩
  refine swp_mono (round a h1) fun e s' hq => ?_
  cases e
  · obtain ⟨a', g1, g2, g3⟩ := hq
    exact ⟨s', weak_refl, _, _, weak_keep ks, g2, a', g1, rfl, g3⟩
  all_goals exact ⟨s', weak_refl, hq⟩
def St.keepG (ks : List Nat) (n m : Nat) (s : St) : St := (s.keep ks).gc n m
theorem swp_famG {C : Cfg} {x : RC} {Q : Ex → St → Prop} {s : St} {α : Type} (ks : List Nat) (n m : Nat) (hn : C.n0 ≤ n) (hm : C.m0 ≤ m) (f : α → St) (inv : α → Prop) (μ : α → Nat) (a0 : α) (h0 : inv a0) (e0 : s.keepG ks n m = f a0)
    (round : ∀ a, inv a → SWp C x (fun e s' => match e with | .normal => ∃ a', inv a' ∧ μ a' < μ a ∧ s'.keepG ks n m = f a' | e => Q e s') (f a)) : SWp C (.loop x) Q s := by
  have hw : ∀ s : St, Weak C s (s.keepG ks n m) := fun s => weak_trans (weak_keep ks) (weak_gc n m hn hm)
  refine swp_loop (fun n t => ∃ a, inv a ∧ μ a = n ∧ t = f a) (μ a0) ⟨_, hw s, a0, h0, rfl, e0⟩ ?_
  rintro k t ⟨a, h1, rfl, rfl⟩
  refine swp_mono (round a h1) fun e s' hq => ?_
  cases e
  · obtain ⟨a', g1, g2, g3⟩ := hq
    exact ⟨s', weak_refl, _, _, hw s', g2, a', g1, rfl, g3⟩
  all_goals exact ⟨s', weak_refl, hq⟩
theorem w32 {n : Int} (h1 : -2147483648 ≤ n) (h2 : n ≤ 2147483647) : IntKind.i32.wrap n = n := by rw [IntKind.wrap_i32]; omega
theorem wu8 {n : Int} (h1 : 0 ≤ n) (h2 : n ≤ 255) : IntKind.u8.wrap n = n := by rw [IntKind.wrap_u8]; omega
theorem wu16 {n : Int} (h1 : 0 ≤ n) (h2 : n ≤ 65535) : IntKind.u16.wrap n = n := by
  have : IntKind.u16.wrap n = n % 65536 := by simp [IntKind.wrap, IntKind.bits, IntKind.signed]
  rw [this]; omega
theorem wu32 {n : Int} (h1 : 0 ≤ n) (h2 : n ≤ 4294967295) : IntKind.u32.wrap n = n := by rw [IntKind.wrap_u32]; omega
theorem wu64 {n : Int} (h1 : 0 ≤ n) (h2 : n ≤ 18446744073709551615) : IntKind.u64.wrap n = n := by
  have : IntKind.u64.wrap n = n % 18446744073709551616 := by simp [IntKind.wrap, IntKind.bits, IntKind.signed]
  rw [this]; omega
theorem lN1 {α : Type} {a : α} {l : List α} : (a :: l).length = l.length + 1 := List.length_cons
theorem lN2 {α : Type} : ([] : List α).length = 0 := List.length_nil
theorem lN3 {α : Type} {a b : List α} : (a ++ b).length = a.length + b.length := List.length_append
theorem lN4 {α β : Type} {f : α → β} {l : List α} : (l.map f).length = l.length := List.length_map f
theorem lN5 {α : Type} {n : Nat} {a : α} : (List.replicate n a).length = n := List.length_replicate
theorem lN6 {α : Type} {n : Nat} {l : List α} : (l.take n).length = min n l.length := List.length_take
theorem lN7 {α : Type} {n : Nat} {l : List α} : (l.drop n).length = l.length - n := List.length_drop
theorem lN : (∀ {α : Type} {a : α} {l : List α}, (a :: l).length = l.length + 1) ∧ (∀ {α : Type}, ([] : List α).length = 0) ∧ (∀ {α : Type} {a b : List α}, (a ++ b).length = a.length + b.length) ∧ (∀ {α β : Type} {f : α → β} {l : List α}, (l.map f).length = l.length) ∧ (∀ {α : Type} {n : Nat} {a : α}, (List.replicate n a).length = n) ∧ (∀ {α : Type} {n : Nat} {l : List α}, (l.take n).length = min n l.length) ∧ (∀ {α : Type} {n : Nat} {l : List α}, (l.drop n).length = l.length - n) := ⟨lN1, lN2, lN3, lN4, lN5, lN6, lN7⟩
end GoV
end
section
namespace GoV
open Go Go.RowKit Go.ChangeShapes
theorem keptBut_of_below {W W' : World} {may : MemPlace → Prop} (h : Below W.heap.size W W') : W.keptBut W' may := by
  refine ⟨h.os, h.output, fun i hi => ?_⟩
  rw [h.block i hi]
  split <;> simp_all
theorem post_of_below {P : Program} {H : Type} {enc : TypeId × Value → H} {f : Func} {s : ChangeSpec} {apart fresh handsOn again : Bool} {W W' : World} {args : Array Value} {v : Value} {ds gs : List (DataW H)} {before pa pv : List MemPlace}
    (hW : DataW.Whole enc P f.params.toList s.vars apart W args.toList ds gs before)
    (hres : ∀ (b : Nat) (sp : Nat → Bool) (hd : Bool), DataW.TrodAll enc P W' b sp hd f.resultTypes.toList (v.resultList f.resultTypes.size) (s.fn H (ds ++ gs)).results [])
    (hargs : ∀ sp : Nat → Bool, (∀ p ∈ before, sp p.block = true) → DataW.TrodAll enc P W' 0 sp true f.params.toList args.toList (s.fn H (ds ++ gs)).args pa)
    (hvars : ∀ sp : Nat → Bool, (∀ p ∈ before, sp p.block = true) → DataW.TrodVars enc P W' sp s.vars (s.fn H (ds ++ gs)).vars pv)
    (hps : before = pa ++ pv) (hb : Below W.heap.size W W')
    (hok : ∀ (j : Nat) (t : TypeId) (r : Value), f.resultTypes[j]? = some t → (v.resultList f.resultTypes.size)[j]? = some r → Value.okWide P W' .any 0 t r) :
    s.post enc P f apart fresh handsOn again W args v W' := by
  have hlt : ∀ p ∈ before, p.block < W.heap.size := fun p hp => hW.lt p hp
  have hold : ∀ p ∈ before, (fun b => decide (b < W.heap.size)) p.block = true := fun p hp => by simpa using hW.lt p hp
  refine ⟨ds, gs, before, [], pa, pv, hW, hres _ _ _, hargs _ hold, hvars _ hold, World.keptBut_mono (fun p hp => ⟨hp, ?_⟩) (keptBut_of_below (may := (· ∈ before)) hb), fun _ => ?_⟩
  · rw [hps, List.mem_append] at hp
    exact Or.inr hp
  · obtain ⟨_, _, _, _, _, hz, hn⟩ := hW
    refine ⟨hok, _, _, ([] ++ pa) ++ pv, ⟨[] ++ pa, pv, trodAll_append (hargs _ (fun _ _ => rfl)) (hres _ _ _), hvars _ (fun _ _ => rfl), rfl, ?_, ?_⟩, ?_⟩
    · intro b off hp
      have hp' : MemPlace.cell b off ∈ before := by rw [hps]; simpa using hp
      have hl : b < W.heap.size := hlt _ hp'
      have e : W'.frozen? ⟨b, off, none⟩ = W.frozen? ⟨b, off, none⟩ := by
        simp only [World.frozen?, hb.block b hl]
      rw [e]
      exact hz b off hp'
    · intro ha
      have := hn ha
      rw [hps] at this
      simpa using this
    · intro p hp _
      rw [hps]
      simpa using hp
theorem int_bounds {n : Int} (h : (Lit.int .i64 n).wf = true) : -9223372036854775808 ≤ n ∧ n ≤ 9223372036854775807 := by
  simp [Lit.wf] at h
  exact h
end GoV
end
section
set_option linter.unusedSimpArgs false
set_option linter.unusedVariables false
set_option maxHeartbeats 1000000
namespace GoV
open Go
def noCells : Obj → Bool
  | .cells .. => false
  | _ => true
structure Turn (w w' : World) (D : Nat) : Prop where
  os : w'.os = w.os
  tape : w'.tape = w.tape
  output : w'.output = w.output
  size : w'.heap.size = w.heap.size
  block : ∀ b, b ≠ D → w'.heap[b]? = w.heap[b]?
  cell : ∀ o, w'.cell? ⟨D, o, none⟩ = w.cell? ⟨D, o, none⟩
theorem cell_noCells {w : World} {D : Nat} {o : Obj} (h : w.heap[D]? = some o) (ho : noCells o = true) (i : Nat) : w.cell? ⟨D, i, none⟩ = none := by
  unfold World.cell?
  simp only [h]
  cases o <;> simp_all [noCells]
theorem Turn.put {w : World} {D : Nat} {o o' : Obj} (h : w.heap[D]? = some o) (h1 : noCells o = true) (h2 : noCells o' = true) : Turn w (w.putObj D o') D := by
  have hlt : D < w.heap.size := (Array.getElem?_eq_some_iff.1 h).1
  refine ⟨rfl, rfl, rfl, by simp [World.putObj], fun b hb => World.putObj_heap_other hb, fun i => ?_⟩
  rw [cell_noCells h h1, cell_noCells (World.putObj_heap_same hlt) h2]
theorem Turn.evo {w w' : World} {D : Nat} (h : Turn w w' D) (g : Gh) : Evo w g w' g := by
  refine ⟨fun b o hi => ⟨hi, ?_⟩, fun _ _ h => h, fun _ T h => ⟨T, h, rfl, .inl rfl⟩⟩
  by_cases e : b = D
  · subst e; exact h.cell o
  · exact cell_of_heap (h.block b e)
theorem Turn.heap {w w' : World} {D : Nat} (h : Turn w w' D) {g : Gh} {hp : Hp} (hD : D ∉ g.own) (hh : HeapRel w g hp) : HeapRel w' g hp :=
  hh.other (h.evo g) rfl rfl (fun n hn => h.block n fun e => hD (e ▸ hn)) (Nat.le_of_eq h.size.symm) fun b o ho => .inl ho
theorem Turn.inv {w w' : World} {D : Nat} (h : Turn w w' D) {w0 : World} {B g : Gh} {hp : Hp} (hD : D ∉ g.own) (hlt : w0.heap.size ≤ D) (hi : Inv w0 B hp w g) : Inv w0 B hp w' g := by
  refine ⟨h.heap hD hi.heap, hi.evo.trans (h.evo g), ?_, hi.newr, hi.newt, hi.i1⟩
  exact ⟨h.os.trans hi.keeps.os, h.tape.trans hi.keeps.tape, h.output.trans hi.keeps.output, by rw [h.size]; exact hi.keeps.size,
    fun b hb hn => (h.block b (by omega)).trans (hi.keeps.block b hb hn)⟩
theorem Inv.refl' {w : World} {g : Gh} {hp : Hp} (h : HeapRel w g hp) : Inv w g hp w g :=
  ⟨h, Evo.refl _ _, Keeps.refl _ _, fun _ h => .inl h, fun _ h => .inl h, fun _ _ h => .inl h⟩
theorem Inv.join {w0 w1 w : World} {B B1 G : Gh} {hp1 hp : Hp} (h : Inv w0 B hp1 w1 B1) (k : Inv w1 B1 hp w G) : Inv w0 B hp w G := by
  have hsz := h.keeps.size
  refine ⟨k.heap, h.evo.trans k.evo, h.keeps.trans' k.keeps h.new, fun n hn => ?_, fun n hn => ?_, fun b o ho => ?_⟩
  · rcases k.newr n hn with q | q
    · exact h.newr n q
    · exact .inr (Nat.le_trans hsz q)
  · rcases k.newt n hn with q | q
    · exact h.newt n q
    · exact .inr (Nat.le_trans hsz q)
  · rcases k.i1 b o ho with q | q | q
    · exact h.i1 b o q
    · exact .inr (.inl (Nat.le_trans hsz q))
    · rcases h.newt b q with p | p
      · exact .inr (.inr p)
      · exact .inr (.inl p)

def Mod.with (M : Mod) (b : World → Gh → Prop) : Mod := { M with base := b }

def mark (D : Nat) : Deferred := { target := .collected D, args := #[] }
def SimT (C : Cfg) (n m : Nat) (w0 : World) (B : Gh) (s : St) (a : Act) (w : World) : Prop :=
  ∃ w1 B1 hp1, ∃ Ds : List Nat, Inv w0 B hp1 w1 B1 ∧ Ds.Nodup ∧ (∀ D ∈ Ds, w1.heap[D]? = some (.deferred (some [])) ∧ D ∉ B1.own ∧ w0.heap.size ≤ D) ∧
    Sim { C with n0 := n, m0 := m, dfs := Ds.map mark } w1 B1 s a w
def LiftT (C : Cfg) (w0 : World) (B : Gh) (Q : Ex → Nat → Nat → St → Prop) : Exit → Act → World → Prop
  | .normal, a, w => ∃ n m s, SimT C n m w0 B s a w ∧ Q .normal n m s
  | .exit i, a, w => ∃ n m s, SimT C n m w0 B s a w ∧ Q (.exit i) n m s
  | .ret, a, w => ∃ n m s, SimT C n m w0 B s a w ∧ Q .ret n m s
  | _, _, _ => False
structure TWp (C : Cfg) (n m : Nat) (rc : RC) (Q : Ex → Nat → Nat → St → Prop) (s : St) : Prop where
  run : ∀ c, resCode C c = some rc → ∀ w0 B, C.M.start w0 B → ∀ a w, SimT C n m w0 B s a w → c.wpIn Fence.wide 0 C.P (LiftT C w0 B Q) a w
section
variable {C : Cfg} {n m : Nat} {Q : Ex → Nat → Nat → St → Prop} {s : St}
def binds : List Dst → List D → St → St
  | p :: ps, d :: ds, s => binds ps ds (s.put p d)
  | _, _, s => s
end
section
variable {C : Cfg} {n m : Nat} {Q : Ex → Nat → Nat → St → Prop} {s : St}
end
end GoV
end
section
namespace GoV
open Go Go.RowKit Go.ChangeShapes Go.Deep
abbrev G0 (w : World) : Gh := ⟨[], [], fun b _ => b < w.heap.size⟩
def Opens (P : Program) (w : World) (n : Nat) (t : TypeId) {α : Type} (f : α → List D) (ok : α → Prop) : Prop :=
  ∀ (H : Type) (enc : TypeId × Value → H) (cs : List Value) (x : DataW H × List MemPlace), DataW.trod enc P w 0 (fun _ => true) true n t cs = some x →
    ∃ a, ok a ∧ RelL w (G0 w) (f a) cs ∧ ∀ y ∈ cs, oneC y
def pk (ds : List D) : D := match ds with | [d] => d | ds => .agg ds
section
variable {P : Program} {w : World} {n : Nat} {t e : TypeId}
theorem Opens.imp {α β : Type} {f : α → List D} {ok : α → Prop} {f' : β → List D} {ok' : β → Prop} (h : Opens P w n t f ok) (c : α → β) (h1 : ∀ a, ok a → f' (c a) = f a) (h2 : ∀ a, ok a → ok' (c a)) : Opens P w n t f' ok' := by
  intro H enc cs x hx
  obtain ⟨a, k1, k2, k3⟩ := h H enc cs x hx
  exact ⟨c a, h2 a k1, by rw [h1 a k1]; exact k2, k3⟩
theorem opens_int {k : IntKind} (ht : P.underlying t = some (.int k)) : Opens P w n t (fun z : Int => [.int k z]) (fun z => (Lit.int k z).wf = true) := by
  intro H enc cs x hx
  obtain ⟨z, rfl, _, hw⟩ := DataW.trod_int ht hx
  exact ⟨z, hw, RelL.one (by simp [Rel]), by simp [oneC, Value.oneCell']⟩
theorem opens_i64 (ht : P.underlying t = some (.int .i64)) : Opens P w n t (fun z : Int => [.int .i64 z]) (fun z => -9223372036854775808 ≤ z ∧ z ≤ 9223372036854775807) :=
  (opens_int ht).imp id (fun _ _ => rfl) (fun _ h => int_bounds h)
theorem opens_bool (ht : P.underlying t = some .bool) : Opens P w n t (fun b : Bool => [.bool b]) (fun _ => True) := by
  intro H enc cs x hx
  obtain ⟨z, rfl, _⟩ := DataW.trod_bool ht hx
  exact ⟨z, trivial, RelL.one (by simp [Rel]), by simp [oneC, Value.oneCell']⟩
theorem opens_str (ht : P.underlying t = some .string) : Opens P w n t (fun s : List UInt8 => [.str s]) (fun s => s.length ≤ 9223372036854775807) := by
  intro H enc cs x hx
  obtain ⟨s, rfl, _, hl⟩ := DataW.trod_string ht hx
  refine ⟨s.data.toList, ?_, RelL.one (by simp [Rel]), by simp [oneC, Value.oneCell']⟩
  have : s.data.toList.length = s.size := by rw [Array.length_toList]; rfl
  show s.data.toList.length ≤ _
  rw [this]
  exact Nat.le_trans hl (by decide)
theorem rel_pk {ds : List D} {cs : List Value} (h : RelL w (G0 w) ds cs) (ho : ∀ y ∈ cs, oneC y) : ∃ v, Rel w (G0 w) (pk ds) v ∧ v.cells.toList = cs := by
  unfold pk
  split
  · rename_i d
    obtain ⟨y, ys, rfl, h1, h2⟩ := h.inv
    rw [h2.inv_nil] at ho ⊢
    exact ⟨y, h1, by rw [cells_one (ho y (by simp))]⟩
  · exact ⟨.agg cs.toArray, by simp only [Rel]; exact ⟨cs, rfl, h, ho⟩, by simp [Value.cells]⟩
theorem list_choose {α : Type} {q : Nat → α → Prop} : ∀ n, (∀ i, i < n → ∃ a, q i a) → ∃ l : List α, l.length = n ∧ ∀ i (h : i < l.length), q i l[i]
  | 0, _ => ⟨[], rfl, by simp⟩
  | n + 1, h => by
    obtain ⟨l, h1, h2⟩ := list_choose n fun i hi => h i (by omega)
    obtain ⟨a, ha⟩ := h n (by omega)
    refine ⟨l ++ [a], by simp [h1], fun i hi => ?_⟩
    by_cases e : i < l.length
    · rw [List.getElem_append_left e]; exact h2 i e
    · have : i = l.length := by simp at hi; omega
      subst this
      simp; rw [h1]; exact ha
theorem flat_get {k : Nat} (hk : 0 < k) : ∀ {xs : List Value}, (∀ y ∈ xs, y.cells.size = k) → ∀ {j : Nat} {y : Value}, (flat xs)[j]? = some y → ∃ x, xs[j / k]? = some x ∧ x.cells.toList[j % k]? = some y
  | [], _, j, y, h => by simp [flat] at h
  | x :: xs, hs, j, y, h => by
    have hx : x.cells.toList.length = k := by simpa using hs x (by simp)
    simp only [flat] at h
    by_cases e : j < k
    · rw [List.getElem?_append_left (by omega)] at h
      exact ⟨x, by simp [Nat.div_eq_of_lt e], by rw [Nat.mod_eq_of_lt e]; exact h⟩
    · rw [List.getElem?_append_right (by omega), hx] at h
      obtain ⟨x', h1, h2⟩ := flat_get hk (fun y hy => hs y (by simp [hy])) h
      refine ⟨x', ?_, by rwa [Nat.mod_eq_sub_mod (by omega)]⟩
      rw [Nat.div_eq_sub_div hk (by omega)]
      simpa using h1
theorem opens_slice {α : Type} {f : α → List D} {ok : α → Prop} (ht : P.underlying t = some (.slice e)) (hc : 0 < P.cellsOf e) (h : Opens P w n e f ok) :
    Opens P w (n + 1) t (fun l : List α => [.slice (l.map fun a => pk (f a)) .no]) (fun l => l.length ≤ 9223372036854775807 ∧ ∀ a ∈ l, ok a) := by
  intro H enc cs x hx
  rcases DataW.trod_slice ht hx with ⟨rfl, _⟩ | ⟨a, len, cap, elems, rest, n', hn, rfl, _, _, hlc, hm, hlen, hel, _⟩
  · refine ⟨[], by simp, RelL.one ?_, by simp [oneC, Value.oneCell']⟩
    simp only [Rel]
    exact ⟨⟨0, 0, none⟩, 0, 0, [], .inr ⟨by simp, by simp, rfl⟩, by simp, RelL.nil, by simp, At.nil, trivial⟩
  obtain rfl : n = n' := by omega
  have one : ∀ i, i < len → ∃ av : α × Value, ok av.1 ∧ Rel w (G0 w) (pk (f av.1)) av.2 ∧ w.cells? 0 (a.add (i * P.cellsOf e)) (P.cellsOf e) = some av.2.cells.toList ∧ ∀ y ∈ av.2.cells.toList, oneC y := by
    intro i hi
    have h1 := hel i hi
    rw [List.getElem?_eq_getElem (by omega)] at h1
    obtain ⟨cs', h2, h3⟩ := Option.bind_eq_some_iff.1 h1
    obtain ⟨b, k1, k2, k3⟩ := h H enc cs' _ h3
    obtain ⟨v, k4, k5⟩ := rel_pk k2 k3
    exact ⟨⟨b, v⟩, k1, k4, by rw [k5]; exact h2, by rw [k5]; exact k3⟩
  obtain ⟨l, hl, hq⟩ := list_choose len one
  have hrel : ∀ (l : List (α × Value)), (∀ i (h : i < l.length), Rel w (G0 w) (pk (f (l[i]).1)) (l[i]).2) → RelL w (G0 w) (l.map fun av => pk (f av.1)) (l.map (·.2)) := by
    intro l
    induction l with
    | nil => intro _; exact RelL.nil
    | cons x l ih => intro hh; exact RelL.cons (hh 0 (by simp)) (ih fun i hi => hh (i + 1) (by simpa using hi))
  have hsz : ∀ y ∈ l.map (·.2), y.cells.size = P.cellsOf e := by
    intro y hy
    obtain ⟨av, hav, rfl⟩ := List.mem_map.1 hy
    obtain ⟨i, hi, rfl⟩ := List.getElem_of_mem hav
    have := (World.cells?_some (hq i hi).2.2.1).2.1
    simpa using this
  have cap_le : len ≤ 9223372036854775807 := Nat.le_trans hlc (Nat.le_trans hm (by decide))
  refine ⟨l.map (·.1), ⟨by simpa [hl] using cap_le, fun b hb => ?_⟩, RelL.one ?_, by simp [oneC, Value.oneCell']⟩
  · obtain ⟨av, hav, rfl⟩ := List.mem_map.1 hb
    obtain ⟨i, hi, rfl⟩ := List.getElem_of_mem hav
    exact (hq i hi).1
  · simp only [Rel]
    refine ⟨a, cap, P.cellsOf e, l.map (·.2), .inl (by simp [hl]), by simp [hl, hlc], ?_, hsz, ⟨fun hne => ?_, fun j y hj => ?_⟩, trivial⟩
    · have := hrel l fun i hi => (hq i hi).2.1
      rw [List.map_map]
      exact this
    · have hpos : 0 < l.length := by
        rcases Nat.eq_zero_or_pos l.length with q | q
        · exfalso; apply hne
          rw [List.length_eq_zero_iff.1 q]; rfl
        · exact q
      have hc0 := (World.cells?_some (hq 0 hpos).2.2.1).2.2 0 hc
      have hlen0 := (World.cells?_some (hq 0 hpos).2.2.1).2.1
      rw [List.getElem?_eq_getElem (by omega)] at hc0
      simp only [Nat.zero_mul] at hc0
      have ha0 : ∀ b : Addr, b.add 0 = b := fun b => by simp [Addr.add]
      rw [ha0, ha0] at hc0
      unfold World.cell? at hc0
      split at hc0
      · split at hc0
        · cases hc0
        · rename_i hs; simpa using hs
      · cases hc0
    · obtain ⟨x, h1, h2⟩ := flat_get hc hsz hj
      rw [List.getElem?_map] at h1
      obtain ⟨av, hav, rfl⟩ := Option.map_eq_some_iff.1 h1
      have hi : j / P.cellsOf e < l.length := by
        rcases Nat.lt_or_ge (j / P.cellsOf e) l.length with q | q
        · exact q
        · rw [List.getElem?_eq_none q] at hav; cases hav
      rw [List.getElem?_eq_getElem hi] at hav
      cases hav
      obtain ⟨_, _, k3, k4⟩ := hq _ hi
      have hm := Nat.mod_lt j hc
      have hcell := (World.cells?_some k3).2.2 _ hm
      rw [h2] at hcell
      have hadd : w.cell? ((a.add (j / P.cellsOf e * P.cellsOf e)).add (j % P.cellsOf e)) = w.cell? ⟨a.block, a.off + j, none⟩ := by
        rw [add_add]
        have e1 : j / P.cellsOf e * P.cellsOf e + j % P.cellsOf e = j := Nat.div_add_mod' j _
        rw [e1]
        unfold Addr.add
        split
        · rename_i hj0
          subst hj0
          rw [add_add, e1] at hcell
          have : a.add 0 = a := by simp [Addr.add]
          rw [this] at hcell
          have hsp : a.spot = none := by
            unfold World.cell? at hcell
            split at hcell
            · split at hcell
              · cases hcell
              · rename_i hs; simpa using hs
            · cases hcell
          obtain ⟨b, o, s⟩ := a
          simp at hsp; subst hsp; rfl
        · rfl
      rw [hadd] at hcell
      refine ⟨hcell, ?_, k4 y (List.mem_of_getElem? h2)⟩
      have := World.block_lt_of_cell? w _ hcell
      exact this

def OpensF (P : Program) (w : World) (n : Nat) (fs : List Field) (off : Nat) {α : Type} (f : α → List D) (ok : α → Prop) : Prop :=
  ∀ (H : Type) (enc : TypeId × Value → H) (cs : List Value), cs.length = off + (fs.map fun f => P.cellsOf f.type).sum →
    (∀ f ∈ fs, ∃ x, DataW.trod enc P w 0 (fun _ => true) true n f.type ((cs.drop f.offset).take (P.cellsOf f.type)) = some x) →
    ∃ a, ok a ∧ RelL w (G0 w) (f a) (cs.drop off) ∧ ∀ y ∈ cs.drop off, oneC y
theorem opensF_nil {off : Nat} : OpensF P w n [] off (fun _ : Unit => []) (fun _ => True) := by
  intro H enc cs hl _
  have : cs.drop off = [] := List.drop_eq_nil_of_le (by simp at hl; omega)
  rw [this]
  exact ⟨(), trivial, RelL.nil, by simp⟩
theorem opensF_cons {α β : Type} {f : α → List D} {ok : α → Prop} {g : β → List D} {ok' : β → Prop} {fl : Field} {fs : List Field} {off c : Nat} (ho : fl.offset = off) (hc : P.cellsOf fl.type = c) (h : Opens P w n fl.type f ok) (hr : OpensF P w n fs (off + c) g ok') :
    OpensF P w n (fl :: fs) off (fun p : α × β => f p.1 ++ g p.2) (fun p => ok p.1 ∧ ok' p.2) := by
  subst ho; subst hc
  intro H enc cs hl hf
  simp only [List.map_cons, List.sum_cons] at hl
  obtain ⟨x, hx⟩ := hf fl (by simp)
  obtain ⟨a, k1, k2, k3⟩ := h H enc _ x hx
  obtain ⟨b, j1, j2, j3⟩ := hr H enc cs (by omega) (fun f hm => hf f (by simp [hm]))
  have e : cs.drop fl.offset = (cs.drop fl.offset).take (P.cellsOf fl.type) ++ cs.drop (fl.offset + P.cellsOf fl.type) := by
    rw [← List.drop_drop, List.take_append_drop]
  refine ⟨(a, b), ⟨k1, j1⟩, ?_, ?_⟩
  · rw [e]; exact k2.append j2
  · rw [e]
    intro y hy
    rcases List.mem_append.1 hy with q | q
    · exact k3 y q
    · exact j3 y q
theorem opens_struct {α : Type} {f : α → List D} {ok : α → Prop} {fs : List Field} (ht : P.underlying t = some (.struct fs.toArray)) (hc : P.cellsOf t = (fs.map fun f => P.cellsOf f.type).sum) (h : OpensF P w n fs 0 f ok) : Opens P w (n + 1) t f ok := by
  intro H enc cs x hx
  obtain ⟨xs, n', hn, _, hl, hlen, hf⟩ := DataW.trod_struct ht hx
  obtain rfl : n = n' := by omega
  have := h H enc cs (by omega) (fun f hm => by
    obtain ⟨i, hi, rfl⟩ := List.getElem_of_mem hm
    have hq := hf i fs[i] (by simp [hi])
    rw [hq]
    have : i < xs.length := by rw [hlen]; simpa using hi
    exact ⟨xs[i], List.getElem?_eq_getElem this⟩)
  simpa using this
theorem opens_zero {α : Type} {f : α → List D} {ok : α → Prop} : Opens P w 0 t f ok := by
  intro H enc cs x hx
  simp [DataW.trod] at hx
theorem opens_all {α : Type} {f : α → List D} {ok : α → Prop} (h : ∀ n, Opens P w (n + 1) t f ok) : ∀ n, Opens P w n t f ok
  | 0 => opens_zero
  | n + 1 => h n

theorem arg_cell {α : Type} {f : α → List D} {ok : α → Prop} {H : Type} {enc : TypeId × Value → H} {v : Value} {d : DataW H} {ps : List MemPlace} {b : Nat} {desc : TypeDesc} (ht : P.underlying t = some desc) (hd : isRowT desc = false) (hval : Value.okWide P w .any b t v)
    (h : DataW.Trod enc P w 0 (fun _ => true) true t v d ps) (hO : ∀ n, Opens P w n t f ok) : ∃ a, ok a ∧ RelL w (G0 w) (f a) [v] := by
  obtain ⟨fuel, hx⟩ := h
  obtain ⟨a, k1, k2, _⟩ := hO fuel H enc _ _ hx
  refine ⟨a, k1, ?_⟩
  have hv : oneC v := by
    cases v with
    | agg cs =>
      exfalso
      unfold Value.okWide at hval
      rw [ht] at hval
      cases desc <;> simp_all [isRowT, Cell.okWide, Cell.ok]
    | tuple cs =>
      exfalso
      unfold Value.okWide at hval
      rw [ht] at hval
      cases desc <;> simp_all [isRowT, Cell.okWide, Cell.ok]
    | _ => simp [oneC, Value.oneCell']
  rw [cells_one hv] at k2
  exact k2
theorem arg_row {α : Type} {f : α → List D} {ok : α → Prop} {H : Type} {enc : TypeId × Value → H} {v : Value} {d : DataW H} {ps : List MemPlace} {b : Nat} {fs : Array Field} (ht : P.underlying t = some (.struct fs)) (hval : Value.okWide P w .any b t v)
    (h : DataW.Trod enc P w 0 (fun _ => true) true t v d ps) (hO : ∀ n, Opens P w n t f ok) : ∃ a, ok a ∧ RelL w (G0 w) [.agg (f a)] [v] := by
  obtain ⟨fuel, hx⟩ := h
  obtain ⟨a, k1, k2, k3⟩ := hO fuel H enc _ _ hx
  refine ⟨a, k1, RelL.one ?_⟩
  unfold Value.okWide at hval
  rw [ht] at hval
  obtain ⟨cs, rfl, _⟩ := hval
  simp only [Value.cells] at k2 k3
  simp only [Rel]
  exact ⟨cs.toList, by simp, k2, k3⟩
theorem relL_app {ds es : List D} {xs ys : List Value} (h : RelL w (G0 w) ds xs) (h2 : RelL w (G0 w) es ys) : RelL w (G0 w) (ds ++ es) (xs ++ ys) := h.append h2
end
end GoV
end
section
set_option maxHeartbeats 1000000
namespace GoV
open Go Go.RowKit
theorem flat_strs : ∀ ss : List ByteArray, flat (ss.map Value.string) = ss.map Value.string
  | [] => rfl
  | s :: ss => by simp [flat, Value.cells, flat_strs ss]

end GoV
end
section
set_option linter.unusedSimpArgs false
set_option linter.unusedVariables false
set_option maxHeartbeats 1000000
namespace GoV
open Go
section
variable {C : Cfg} {w0 : World} {B : Gh}
theorem draw_soundX {ro : Option Nat} (hA : C.M.start w0 B) {ops : Array Oper} {m : Nat} {ros : List RO} {K : St → Prop} {Q : Exit → Act → World → Prop} (hB : drawOk ops m = true) (hm : m ≤ ops.size) (hr : resOps C ops (List.range' 0 ops.size) = some ros)
    (hQ : ∀ s a w, K s → Sim C w0 B s a w → Q .normal a w) {s : St} (_hl : s.env.length = C.pers.length)
    {ds : Nat → D} {hps : Nat → Hp} {fl : Nat → Bool} {s1 : St} (hk1 : opsWp C.M (ros.drop m) K s1) (hpm : hps m = s1.hp) (hl1 : s1.env.length = C.pers.length)
    (hfq : ∀ i, i < m → fl i = true → hps (i + 1) = hps i)
    (hst : ∀ i, i < m → ∃ o, ops[i]? = some o ∧ StepQ C ops (hps i) (hps (i + 1)) (sig ops (s.slot C.pers) ds (fun _ => true) i) o (ds i))
    (hX : ∀ i, i < m → (fl i = true ∧ ∃ o, ops[i]? = some o ∧ ∀ hp2, StepQ C ops hp2 hp2 (sig ops (s.slot C.pers) ds (fun _ => true) i) o (ds i)) ∨ ∀ j, j < m → j ≠ i → fl j = true)
    (hend : sig ops (s.slot C.pers) ds (fun _ => true) m = s1.slot C.pers) :
    ∀ (fuel : Nat) (listed : Array Bool) (a : Act) (w : World), listed.size = ops.size → unl listed.toList ≤ fuel →
      (∀ j oj, ops[j]? = some oj → listed.getD j false = true → ∀ e ∈ oj.after, Region.binds .any e = true → listed.getD e.on false = true) →
      (((∀ j, listed.getD j false = true → j < m) ∧ SimF C w0 B (sig ops (s.slot C.pers) ds (fun j => listed.getD j false) m) (hpE hps fl (fun j => listed.getD j false) m) a w) ∨
        ∃ i s', m ≤ i ∧ (∀ j, j < ops.size → (listed.getD j false = true ↔ j < i)) ∧ Sim C w0 B s' a w ∧ opsWp C.M (ros.drop i) K s') →
      wpAnyIn (FR ro) 0 C.P .any ops Q fuel listed a w := by
  have hros : ros.length = ops.size := by rw [resOps_length _ _ hr]; simp
  have hsub : ∀ (listed : Array Bool), (∀ j oj, ops[j]? = some oj → listed.getD j false = true → ∀ e ∈ oj.after, Region.binds .any e = true → listed.getD e.on false = true) →
      ∀ j oj, ops[j]? = some oj → (∀ e ∈ oj.after, Region.binds .any e = true → listed.getD e.on false = true) → ∀ i ∈ (befores ops.toList).getD j [], listed.getD i false = true := by
    intro listed hcl j
    induction j using Nat.strongRecOn with
    | _ j ih =>
      intro oj hj ha i hi
      obtain ⟨e, he, hbd, h1⟩ := mem_befores (by simpa using hj) hi
      rcases h1 with h1 | h1
      · rw [h1]; exact ha e he hbd
      · have hlt := (drawOk_spec hB hj).1 e he hbd
        have hjs : j < ops.size := (Array.getElem?_eq_some_iff.1 hj).1
        have hoe : ops[e.on]? = some ops[e.on] := Array.getElem?_eq_getElem (by omega)
        exact ih e.on hlt _ hoe (hcl e.on _ hoe (ha e he hbd)) i h1
  have conv : ∀ (listed : Array Bool) (a : Act) (w : World), (∀ j, listed.getD j false = true → j < m) → (∀ j, j < m → listed.getD j false = true) →
      SimF C w0 B (sig ops (s.slot C.pers) ds (fun j => listed.getD j false) m) (hpE hps fl (fun j => listed.getD j false) m) a w → Sim C w0 B s1 a w := by
    intro listed a w h1 h2 hs
    have e : sig ops (s.slot C.pers) ds (fun j => listed.getD j false) m = s1.slot C.pers := by
      rw [← hend]; funext t
      exact sig_agree m fun j hj _ => h2 j hj
    obtain ⟨G, g1, gb, g2, g3, g4⟩ := hs
    rw [hpE_all m (fun j hj _ => h2 j hj) hfq] at g1
    exact ⟨G, by rw [← hpm]; exact g1, gb, g2, g3, hl1, by rw [← e]; exact g4⟩
  have fin : ∀ (listed : Array Bool) (a : Act) (w : World), (∀ j, j < ops.size → listed.getD j false = true) →
      (((∀ j, listed.getD j false = true → j < m) ∧ SimF C w0 B (sig ops (s.slot C.pers) ds (fun j => listed.getD j false) m) (hpE hps fl (fun j => listed.getD j false) m) a w) ∨
        ∃ i s', m ≤ i ∧ (∀ j, j < ops.size → (listed.getD j false = true ↔ j < i)) ∧ Sim C w0 B s' a w ∧ opsWp C.M (ros.drop i) K s') → Q .normal a w := by
    intro listed a w hall h
    rcases h with ⟨h1, h2⟩ | ⟨i, s', h1, h2, h3, h4⟩
    · have hs1 := conv listed a w h1 (fun j hj => hall j (by omega)) h2
      have hmn : ops.size ≤ m := by
        rcases Nat.eq_zero_or_pos ops.size with g | g
        · omega
        · have := h1 (ops.size - 1) (hall _ (by omega)); omega
      rw [List.drop_eq_nil_of_le (by omega)] at hk1
      exact hQ s1 a w hk1 hs1
    · have hin : ops.size ≤ i := by
        rcases Nat.eq_zero_or_pos ops.size with g | g
        · omega
        · have := (h2 (ops.size - 1) (by omega)).1 (hall _ (by omega)); omega
      rw [List.drop_eq_nil_of_le (by omega)] at h4
      exact hQ s' a w h4 h3
  have least : ∀ (listed : Array Bool), listed.size = ops.size → (∀ j oj, ops[j]? = some oj → listed.getD j false = true → ∀ e ∈ oj.after, Region.binds .any e = true → listed.getD e.on false = true) →
      Region.ready .any ops listed = [] → ∀ j, j < ops.size → listed.getD j false = true := by
    intro listed hsz hcl hr0 j
    induction j using Nat.strongRecOn with
    | _ j ih =>
      intro hj
      cases hb : listed.getD j false with
      | true => rfl
      | false =>
        exfalso
        have hoj : ops[j]? = some ops[j] := Array.getElem?_eq_getElem hj
        have : j ∈ Region.ready .any ops listed := by
          rw [mem_ready]
          refine ⟨?_, ops[j], hoj, fun e he hbd => ?_⟩
          · have hlt : j < listed.size := by omega
            simp [hlt] at hb ⊢; exact hb
          · have := (drawOk_spec hB hoj).1 e he hbd
            exact ih e.on this (by omega)
        rw [hr0] at this; cases this
  intro fuel
  induction fuel with
  | zero =>
    intro listed a w hsz hu hcl h
    have hall : ∀ j, j < ops.size → listed.getD j false = true := by
      intro j hj
      have hlt : j < listed.size := by omega
      have := unl_zero listed.toList (by omega) j (by simpa using hlt)
      simp [hlt] at this ⊢; exact this
    refine ⟨?_, fin listed a w hall h⟩
    cases hr0 : Region.ready .any ops listed with
    | nil => rfl
    | cons i l =>
      have : i ∈ Region.ready .any ops listed := by rw [hr0]; simp
      obtain ⟨h1, o, ho, _⟩ := mem_ready.1 this
      have hlt : i < ops.size := (Array.getElem?_eq_some_iff.1 ho).1
      have h2 := hall i hlt
      have hlt2 : i < listed.size := by omega
      simp [hlt2] at h1 h2; rw [h1] at h2; cases h2
  | succ fuel ih =>
    intro listed a w hsz hu hcl h
    refine ⟨fun hr0 => fin listed a w (least listed hsz hcl hr0) h, fun i hi => ?_⟩
    obtain ⟨hun, o, ho, hdeps⟩ := mem_ready.1 hi
    have hlt : i < ops.size := (Array.getElem?_eq_some_iff.1 ho).1
    have hlt2 : i < listed.size := by omega
    have hunf : listed.getD i false = false := by simp [hlt2] at hun ⊢; exact hun
    have hdeps' : ∀ e ∈ o.after, Region.binds .any e = true → listed.getD e.on false = true := hdeps
    have hbef := hsub listed hcl i o ho hdeps'
    have hcl' : ∀ j oj, ops[j]? = some oj → (listed.setIfInBounds i true).getD j false = true → ∀ e ∈ oj.after, Region.binds .any e = true → (listed.setIfInBounds i true).getD e.on false = true := by
      intro j oj hj hlj e he hbd
      rw [listed_set hlt2] at hlj ⊢
      simp only [Bool.or_eq_true, beq_iff_eq] at hlj ⊢
      rcases hlj with g | g
      · exact .inl (hcl j oj hj g e he hbd)
      · subst g
        rw [ho] at hj; cases hj
        exact .inl (hdeps' e he hbd)
    have hu' : unl (listed.setIfInBounds i true).toList ≤ fuel := by
      have := unl_set listed.toList i (by simp [hlt2] at hunf ⊢; exact hunf)
      simp only [Array.toList_setIfInBounds]; omega
    have hafter : m ≤ i → ∀ j, j < ops.size → (listed.getD j false = true ↔ j < i) := by
      intro hmi j hj
      constructor
      · intro hlj
        rcases Nat.lt_trichotomy j i with g | g | g
        · exact g
        · subst g; rw [hunf] at hlj; cases hlj
        · exfalso
          have hoj : ops[j]? = some ops[j] := Array.getElem?_eq_getElem hj
          obtain ⟨oi, hoi, q⟩ := (drawOk_spec hB hoj).2 i g
          rcases q with q | q
          · have := hsub listed hcl j _ hoj (hcl j _ hoj hlj) i q
            rw [hunf] at this; cases this
          · omega
      · intro hji
        obtain ⟨oi, hoi, q⟩ := (drawOk_spec hB ho).2 j hji
        rcases q with q | q
        · exact hbef j q
        · omega
    unfold wpOpIn
    rw [ho]
    by_cases him : i < m
    · 
      rcases h with ⟨h1, h2⟩ | ⟨i', s', h1, h2, h3, h4⟩
      · obtain ⟨o', ho', hq⟩ := hst i him
        rw [ho] at ho'; cases ho'
        have ords : ∀ j, j < m → j ≠ i → ∀ t, t ∈ namesOf ops o → dstO ops j = some t → (listed.getD j false = true ↔ j < i) := by
          intro j hj hji t ht hd
          have hjs : j < ops.size := by omega
          have hoj : ops[j]? = some ops[j] := Array.getElem?_eq_getElem hjs
          have hdj : ops[j].dst = some t := by simpa [dstO, hoj] using hd
          constructor
          · intro hlj
            rcases Nat.lt_or_ge j i with g | g
            · exact g
            · exfalso
              obtain ⟨oi, hoi, q⟩ := (drawOk_spec hB hoj).2 i (by omega)
              rw [ho] at hoi; cases hoi
              rcases q with q | q
              · have := hsub listed hcl j _ hoj (hcl j _ hoj hlj) i q
                rw [hunf] at this; cases this
              · exact (clash_spec q.2).2 t hdj ht
          · intro g
            obtain ⟨oi, hoi, q⟩ := (drawOk_spec hB ho).2 j g
            rw [hoj] at hoi; cases hoi
            rcases q with q | q
            · exact hbef j q
            · exact absurd ht ((clash_spec q.2).1 t hdj)
        have hlook : ∀ t ∈ o.looksAt ops, sig ops (s.slot C.pers) ds (fun _ => true) i t = sig ops (s.slot C.pers) ds (fun j => listed.getD j false) m t := by
          intro t ht
          have ht' : t ∈ namesOf ops o := by simp [namesOf, ht]
          have e1 : sig ops (s.slot C.pers) ds (fun j => listed.getD j false) m t = sig ops (s.slot C.pers) ds (fun j => listed.getD j false) i t := by
            refine sig_skip m (by omega) fun j g1 g2 g3 hd => ?_
            by_cases hji : j = i
            · subst hji; rw [hunf] at g3; cases g3
            · have := (ords j g2 hji t ht' hd).1 g3; omega
          rw [e1]
          exact sig_agree i fun j hj hd => ((ords j (by omega) (by omega) t ht' hd).2 hj).symm
        obtain ⟨o', x, r1, r2, r3⟩ := resOps_drop _ _ i ros hr hlt
        rw [Nat.zero_add, ho] at r1; cases r1
        have hx : ros[i]? = some x := by
          have := List.getElem?_drop (xs := ros) (i := i) (j := 0)
          rw [r3] at this; simpa using this.symm
        have hL : ∀ j, (listed.setIfInBounds i true).getD j false = (listed.getD j false || j == i) := fun j => listed_set hlt2
        have hstep : StepQ C ops (hpE hps fl (fun j => listed.getD j false) m) (hpE hps fl (fun j => (listed.setIfInBounds i true).getD j false) m) (sig ops (s.slot C.pers) ds (fun _ => true) i) o (ds i) := by
          rcases hX i him with ⟨hfi, o2, ho2, hany⟩ | hoth
          · rw [ho] at ho2; cases ho2
            have e : hpE hps fl (fun j => (listed.setIfInBounds i true).getD j false) m = hpE hps fl (fun j => listed.getD j false) m := by
              refine hpE_agree m fun j hj hfj => ?_
              have : j ≠ i := by intro e; subst e; rw [hfi] at hfj; cases hfj
              simp only [hL]; simp [this]
            rw [e]
            exact hany _
          · have hord : ∀ j, j < m → j ≠ i → fl j = false → (j < i ∧ listed.getD j false = true) ∨ (i < j ∧ listed.getD j false = false) := by
              intro j hj hji hfj
              rw [hoth j hj hji] at hfj
              cases hfj
            have e1 : hpE hps fl (fun j => listed.getD j false) m = hps i := by
              rw [hpE_skip (a := i) m (by omega) fun j g1 g2 g3 => ?_]
              · refine hpE_all i (fun j hj hfj => ?_) fun j hj => hfq j (by omega)
                rcases hord j (by omega) (by omega) hfj with q | q
                · exact q.2
                · omega
              · by_cases e : j = i
                · subst e; exact hunf
                · rcases hord j g2 e g3 with q | q
                  · omega
                  · exact q.2
            have e2 : hpE hps fl (fun j => (listed.setIfInBounds i true).getD j false) m = hps (i + 1) := by
              rw [hpE_skip (a := i + 1) m (by omega) fun j g1 g2 g3 => ?_]
              · refine hpE_all (i + 1) (fun j hj hfj => ?_) fun j hj => hfq j (by omega)
                simp only [hL]
                by_cases e : j = i
                · subst e; simp
                · rcases hord j (by omega) e hfj with q | q
                  · simp only [q.2, Bool.true_or]
                  · omega
              · simp only [hL]
                have e : j ≠ i := by omega
                rcases hord j g2 e g3 with q | q
                · omega
                · simp only [q.2, Bool.false_or]; simp [e]
            rw [e1, e2]; exact hq
        refine StepQ.sound hA (hstep.congr hlook) h2 fun a' w' hs' => ih _ a' w' (by simpa using hsz) hu' hcl' (.inl ⟨fun j hj => ?_, ?_⟩)
        · rw [listed_set hlt2] at hj
          simp only [Bool.or_eq_true, beq_iff_eq] at hj
          rcases hj with g | g
          · exact h1 j g
          · omega
        · have e2 : sig ops (s.slot C.pers) ds (fun j => (listed.setIfInBounds i true).getD j false) m = updO (sig ops (s.slot C.pers) ds (fun j => listed.getD j false) m) (dstO ops i) (ds i) := by
            rw [← sig_set him hunf]
            · congr 1; funext j; exact listed_set hlt2
            · intro j t g1 g2 g3 g4 g5
              cases hb : listed.getD j false with
              | false => rfl
              | true =>
                have hoi : o.dst = some t := by simpa [dstO, ho] using g3
                have := (ords j g1 g2 t (by simp [namesOf, hoi]) g4).1 hb
                omega
          rw [e2]
          have : dstO ops i = o.dst := by simp [dstO, ho]
          rw [this]; exact hs'
      · exfalso
        have := (h2 i hlt).2 (by omega)
        rw [hunf] at this; cases this
    · 
      have hmi : m ≤ i := by omega
      have hiff := hafter hmi
      obtain ⟨s', hs', hk'⟩ : ∃ s', Sim C w0 B s' a w ∧ opsWp C.M (ros.drop i) K s' := by
        rcases h with ⟨h1, h2⟩ | ⟨i', s', h1, h2, h3, h4⟩
        · have hie : i = m := by
            rcases Nat.lt_or_ge m i with g | g
            · have := h1 m ((hiff m (by omega)).2 g); omega
            · omega
          subst hie
          exact ⟨s1, conv listed a w h1 (fun j hj => (hiff j (by omega)).2 hj) h2, hk1⟩
        · have hie : i' = i := by
            rcases Nat.lt_trichotomy i' i with g | g | g
            · have q1 := (hiff i' (by omega)).2 g
              have := (h2 i' (by omega)).1 q1; omega
            · exact g
            · have := (h2 i hlt).2 g; rw [hunf] at this; cases this
          subst hie
          exact ⟨s', h3, h4⟩
      obtain ⟨o', x, g1, g2, g3⟩ := resOps_drop _ _ i ros hr hlt
      rw [Nat.zero_add, ho] at g1; cases g1
      rw [g3] at hk'
      refine head_sound hA g2 (K := opsWp C.M (ros.drop (i + 1)) K) (fun s'' a' w' q1 q2 => ih _ a' w' (by simpa using hsz) hu' hcl' (.inr ⟨i + 1, s'', by omega, fun j hj => ?_, q2, q1⟩)) hk' hs'
      rw [listed_set hlt2]
      simp only [Bool.or_eq_true, beq_iff_eq]
      have := hiff j hj
      constructor
      · rintro (q | q)
        · have := this.1 q; omega
        · omega
      · intro q
        by_cases e : j = i
        · exact .inr e
        · exact .inl (this.2 (by omega))
def AnyS (M : Mod) (oc : OC) (ds : List D) (d : D) : Prop := ∀ hp2, OcWp M oc ds hp2 (fun d' hp' => d' = d ∧ hp' = hp2)
def headA (M : Mod) (o : RO) (K : St → Prop) (s : St) : Prop :=
  match o.guard with
  | none => ∃ d, AnyS M o.oc (o.args.map s.get) d ∧ K (s.put o.dst d)
  | some (g, want) =>
    match s.get g with
    | .bool b => (b = want → ∃ d, AnyS M o.oc (o.args.map (s.setO g (.bool want)).get) d ∧ K ((s.setO g (.bool want)).put o.dst d)) ∧
        (b = (!want) → K ((s.setO g (.bool (!want))).put o.dst .skip))
    | .skip => K (s.put o.dst .skip)
    | _ => False
def opsX (M : Mod) (j : Nat) : Nat → List (RO × Bool) → (St → Prop) → St → Prop
  | _, [], K, s => K s
  | i, (o, _) :: r, K, s => if i = j then headQ M false o (opsX M j (i + 1) r K) s else headA M o (opsX M j (i + 1) r K) s
theorem headA_step {ops : Array Oper} {o : Oper} {x : RO} {K : St → Prop} {s : St} (h1 : resOp1 C ops o = some x) (hl : s.env.length = C.pers.length) (h : headA C.M x K s) :
    ∃ d s1, K s1 ∧ s1.hp = s.hp ∧ s1.env.length = C.pers.length ∧ (∀ hp2, StepQ C ops hp2 hp2 (s.slot C.pers) o d) ∧ s1.slot C.pers = updO (s.slot C.pers) o.dst d := by
  unfold resOp1 at h1
  cases hres : resolveOp C.P o.op with
  | none => simp [hres] at h1
  | some p =>
    obtain ⟨oc, ys⟩ := p
    cases ha : resOs C ys with
    | none => simp [hres, ha] at h1
    | some args =>
      cases hd : resDst C o.dst with
      | none => simp [hres, ha, hd] at h1
      | some dst =>
        cases hg : resGuard C ops o.guard with
        | none => simp [hres, ha, hd, hg] at h1
        | some guard =>
          simp [hres, ha, hd, hg] at h1; subst h1
          cases hog : o.guard with
          | none =>
            simp [hog, resGuard] at hg; subst hg
            simp only [headA] at h
            obtain ⟨d, h2, h3⟩ := h
            rw [map_evO ha] at h2
            exact ⟨d, _, h3, put_hp _ _ _, by rw [put_env_len]; exact hl, fun hp2 => ⟨oc, ys, hres, ⟨_, ha⟩, ⟨_, hd⟩, .inl ⟨hog, h2 hp2⟩⟩, put_slot hd hl _⟩
          | some p =>
            obtain ⟨j, want⟩ := p
            simp only [hog, resGuard] at hg
            cases hj : (ops[j]?).bind (·.dst) with
            | none => simp [hj] at hg
            | some t =>
              simp only [hj] at hg
              cases hgo : resO C (.tmp t) with
              | none => simp [hgo] at hg
              | some g =>
                simp [hgo] at hg; subst hg
                have htn := (resO_tmp hgo).2
                simp only [headA] at h
                have hsl : s.slot C.pers t = s.get g := (get_slot hgo).symm
                cases hb : s.get g <;> simp only [hb] at h
                case bool b =>
                  by_cases e : b = want
                  · subst e
                    obtain ⟨d, h2, h3⟩ := h.1 rfl
                    rw [map_evO ha, setO_same hgo hl hb] at h2
                    refine ⟨d, _, h3, by rw [put_hp, setO_hp], by rw [put_env_len]; simpa [setO_len] using hl, fun hp2 => ⟨oc, ys, hres, ⟨_, ha⟩, ⟨_, hd⟩, .inr ⟨j, b, t, hog, hj, htn, .inl ⟨by rw [hsl, hb], h2 hp2⟩⟩⟩, ?_⟩
                    rw [put_slot hd (by simpa [setO_len] using hl), setO_same hgo hl hb]
                  · have e' : b = (!want) := by cases b <;> cases want <;> simp_all
                    subst e'
                    refine ⟨.skip, _, h.2 rfl, by rw [put_hp, setO_hp], by rw [put_env_len, setO_len]; exact hl, fun hp2 => ⟨oc, ys, hres, ⟨_, ha⟩, ⟨_, hd⟩, .inr ⟨j, want, t, hog, hj, htn, .inr (.inl ⟨by rw [hsl, hb], rfl, rfl⟩)⟩⟩, ?_⟩
                    rw [put_slot hd (by rw [setO_len]; exact hl), setO_same hgo hl hb]
                case skip =>
                  exact ⟨.skip, _, h, put_hp _ _ _, by rw [put_env_len]; exact hl, fun hp2 => ⟨oc, ys, hres, ⟨_, ha⟩, ⟨_, hd⟩, .inr ⟨j, want, t, hog, hj, htn, .inr (.inr ⟨by rw [hsl, hb], rfl, rfl⟩)⟩⟩, put_slot hd hl _⟩
theorem opsX_trace {ops : Array Oper} {K : St → Prop} {e : Nat} : ∀ (len k : Nat) (ros : List RO) (qs : List (RO × Bool)) (s : St), resOps C ops (List.range' k len) = some ros → qs.map (·.1) = ros → s.env.length = C.pers.length → opsX C.M e k qs K s →
    ∃ (ds : Nat → D) (σ : Nat → Nat → D) (hps : Nat → Hp) (s1 : St), K s1 ∧ hps k = s.hp ∧ hps (k + len) = s1.hp ∧ s1.env.length = C.pers.length ∧ σ k = s.slot C.pers ∧ σ (k + len) = s1.slot C.pers ∧
      ∀ i, k ≤ i → i < k + len → ∃ o, ops[i]? = some o ∧ StepQ C ops (hps i) (hps (i + 1)) (σ i) o (ds i) ∧ σ (i + 1) = updO (σ i) o.dst (ds i) ∧ (i ≠ e → hps (i + 1) = hps i ∧ ∀ hp2, StepQ C ops hp2 hp2 (σ i) o (ds i))
  | 0, k, ros, qs, s, hr, hqs, hl, h => by
    simp [resOps] at hr; subst hr
    have : qs = [] := by simpa using hqs
    subst this
    exact ⟨fun _ => .undef, fun _ => s.slot C.pers, fun _ => s.hp, s, h, rfl, rfl, hl, rfl, rfl, fun i h1 h2 => by omega⟩
  | len + 1, k, ros, qs, s, hr, hqs, hl, h => by
    rw [List.range'_succ] at hr
    obtain ⟨o, x, xs, ho, h1, h2, rfl⟩ := resOps_cons hr
    cases qs with
    | nil => simp at hqs
    | cons p qs =>
      obtain ⟨x', q⟩ := p
      simp only [List.map_cons, List.cons.injEq] at hqs
      obtain ⟨rfl, hqs⟩ := hqs
      simp only [opsX] at h
      have key : ∃ d s1, opsX C.M e (k + 1) qs K s1 ∧ s1.env.length = C.pers.length ∧ StepQ C ops s.hp s1.hp (s.slot C.pers) o d ∧ s1.slot C.pers = updO (s.slot C.pers) o.dst d ∧
          (k ≠ e → s1.hp = s.hp ∧ ∀ hp2, StepQ C ops hp2 hp2 (s.slot C.pers) o d) := by
        by_cases hk : k = e
        · rw [if_pos hk] at h
          obtain ⟨d, s1, k1, _, k3, k4, k5⟩ := headQ_step h1 hl h
          exact ⟨d, s1, k1, k3, k4, k5, fun q => absurd hk q⟩
        · rw [if_neg hk] at h
          obtain ⟨d, s1, k1, k2, k3, k4, k5⟩ := headA_step h1 hl h
          exact ⟨d, s1, k1, k3, by rw [k2]; exact k4 _, k5, fun _ => ⟨k2, k4⟩⟩
      obtain ⟨d, s1, k1, k3, k4, k5, k6⟩ := key
      obtain ⟨ds, σ, hps, s2, g1, g2, g2', g3, g4, g5, g6⟩ := opsX_trace len (k + 1) xs qs s1 h2 hqs k3 k1
      refine ⟨fun i => if i = k then d else ds i, fun i => if i = k then s.slot C.pers else σ i, fun i => if i = k then s.hp else hps i, s2, g1, by simp, ?_, g3, by simp, ?_, fun i h1 h2 => ?_⟩
      · have : k + (len + 1) ≠ k := by omega
        simp only [this, if_false]
        rw [← g2']; congr 1; omega
      · have : k + (len + 1) ≠ k := by omega
        simp only [this, if_false]
        rw [← g5]; congr 1; omega
      · by_cases ek : i = k
        · subst ek
          refine ⟨o, ho, ?_, ?_, fun q => ?_⟩
          · simpa [g2] using k4
          · simp [g4, k5]
          · obtain ⟨q1, q2⟩ := k6 q
            exact ⟨by simp [g2, q1], by simpa using q2⟩
        · obtain ⟨o', q1, q2, q3, q4⟩ := g6 i (by omega) (by omega)
          have e2 : i + 1 ≠ k := by omega
          exact ⟨o', q1, by simpa [ek, e2] using q2, by simpa [ek, e2] using q3, by simpa [ek, e2] using q4⟩
theorem swp_regDX {Q : Ex → St → Prop} {s : St} {qs : List (RO × Bool)} {ros : List RO} (e : Nat) (h : opsX C.M e 0 qs (fun s1 => opsWp C.M ros (fun s' => Q .normal s'.done) s1) s) : SWp C (.regD qs ros) Q s := by
  refine ⟨fun c hc w0 B hA a w hs => ?_⟩
  have hreg : ∀ id ops d, c = .region id ops d → _ := fun id ops d e => res_region (e ▸ hc)
  cases c <;> (try simp only [resCode] at hc) <;> (try (cases hc; done))
  case region id ops d =>
    rcases hreg _ _ _ rfl with ⟨r, h1, _⟩ | ⟨r, h1, rfl, hB1, hB2, hr⟩ | h1
    · cases h1
    · cases h1
      have hB := And.intro hB1 hB2
      · skip
        rw [List.range_eq_range'] at hr
        have hl : s.env.length = C.pers.length := by obtain ⟨_, _, _, _, _, q, _⟩ := hs; exact q
        have hrl : tailAt ops ≤ r.length := by rw [resOps_length _ _ hr]; simpa using tailAt_le ops
        obtain ⟨ds, σ, hps, s1, k1, k2, k2', k3, k4, k5, k6⟩ := opsX_trace (tailAt ops) 0 _ _ s (resOps_take _ _ 0 _ hr (tailAt_le ops)) (flags_fst hrl) hl h
        have hsig : ∀ i, i ≤ tailAt ops → σ i = sig ops (s.slot C.pers) ds (fun _ => true) i := by
          intro i
          induction i with
          | zero => intro _; exact k4
          | succ i ih =>
            intro hi
            obtain ⟨o, q1, _, q3, _⟩ := k6 i (Nat.zero_le _) (by omega)
            rw [q3, ih (by omega)]
            simp [sig, dstO, q1]
        refine fun ro => wpIn_region_any hB.2 (draw_soundX hA (s := s) (s1 := s1) (K := fun s' => Q .normal s'.done) (ds := ds) (hps := hps) (m := tailAt ops) (ros := r) (fl := fun i => decide (i ≠ e)) hB.1 (tailAt_le ops) hr (fun s a w hk hs => ⟨s.done, weak_done _ _ _ _ hs, hk⟩) hl k1 (by rw [← k2', Nat.zero_add]) k3 (fun i hi hf => ?_) (fun i hi => ?_) (fun i hi => ?_) ?_ ops.size _ a _ (by simp) ?_ ?_ (.inl ⟨?_, ?_⟩))
        · obtain ⟨o, q1, q2, q3, q4⟩ := k6 i (Nat.zero_le _) (by omega)
          exact (q4 (by simpa using hf)).1
        · obtain ⟨o, q1, q2, _, _⟩ := k6 i (Nat.zero_le _) (by omega)
          rw [hsig i (by omega)] at q2
          exact ⟨o, q1, q2⟩
        · by_cases hie : i = e
          · right
            intro j _ hji
            simp; omega
          · left
            obtain ⟨o, q1, _, _, q4⟩ := k6 i (Nat.zero_le _) (by omega)
            refine ⟨by simpa using hie, o, q1, fun hp2 => ?_⟩
            have := (q4 hie).2 hp2
            rwa [hsig i (by omega)] at this
        · rw [← hsig _ (Nat.le_refl _), ← k5, Nat.zero_add]
        · simp only [unl, Array.toList_replicate]
          exact Nat.le_trans (List.length_filter_le _ _) (by simp)
        · intro j oj hj hlj
          exfalso
          have : (Array.replicate ops.size false).getD j false = false := by
            simp only [Array.getD_eq_getD_getElem?, Array.getElem?_replicate]; split <;> rfl
          rw [this] at hlj; cases hlj
        · intro j hlj
          exfalso
          have : (Array.replicate ops.size false).getD j false = false := by
            simp only [Array.getD_eq_getD_getElem?, Array.getElem?_replicate]; split <;> rfl
          rw [this] at hlj; cases hlj
        · obtain ⟨G, g0, gb, g1, g2, g3, g4⟩ := hs
          have hrep : ∀ j, (Array.replicate ops.size false).getD j false = false := by
            intro j
            simp only [Array.getD_eq_getD_getElem?, Array.getElem?_replicate]; split <;> rfl
          have e1 : sig ops (s.slot C.pers) ds (fun j => (Array.replicate ops.size false).getD j false) (tailAt ops) = s.slot C.pers := by
            funext t
            exact sig_skip (ops := ops) (σ0 := s.slot C.pers) (ds := ds) (E := fun j => (Array.replicate ops.size false).getD j false) (t := t) (a := 0) (tailAt ops) (Nat.zero_le _) (fun j _ _ hE => by
              rw [hrep] at hE; cases hE)
          rw [e1, hpE_none _ (fun j _ => hrep j), k2]
          obtain ⟨q1, q2⟩ := g0.drawn (w.drawn + 1)
          exact ⟨G, q1, gb, g1, g2, fun t => Rel.evo _ q2 (g4 t)⟩
    · cases h1
  all_goals exfalso; (repeat' split at hc) <;> simp_all
end
section
variable {M : Mod} {j i : Nat} {dst : Dst} {a g : Opd} {q : Bool} {r : List (RO × Bool)} {K : St → Prop} {s : St} {want : Bool} {oc : OC} {args : List Opd}
theorem x_nil (h : K s) : opsX M j i [] K s := h
end
end GoV
end
section
set_option linter.unusedSimpArgs false
set_option linter.unusedVariables false
set_option maxHeartbeats 1000000
namespace GoV
open Go
section
variable {C : Cfg} {w0 : World} {B : Gh}
def Still (F : (Nat → Bool) → Hp) (i : Nat) : Prop := ∀ E : Nat → Bool, E i = false → F (fun j => E j || j == i) = F E
end
section
variable {M : Mod} {F : (Nat → Bool) → Hp} {i : Nat} {dst : Dst} {q : Bool} {r : List (RO × Bool)} {K : St → Prop} {s : St} {oc : OC} {args : List Opd}
end
theorem weak_resv {C : Cfg} {s : St} (k : Nat) (hk : 0 < k) : Weak C s ⟨s.env, [], { s.hp with tk := s.hp.tk ++ [.chg k []] }⟩ := by
  intro w0 B a w h
  obtain ⟨G, g0, gb, g1, g2, g3, g4⟩ := h
  obtain ⟨q1, q2⟩ := g0.tokFull (len := 0) (a := none) hk (.chg k []) (.inr ⟨rfl, rfl, rfl⟩)
  refine ⟨_, q1, gb, g1, g2, g3, fun t => ?_⟩
  have := Rel.evo _ q2 (g4 t)
  unfold St.slot at *
  split
  · rename_i j hj
    rw [hj] at this
    exact this
  · simp [lk, Rel]
end GoV
end
section
set_option linter.unusedSimpArgs false
set_option linter.unusedVariables false
namespace GoV
open Go
theorem take_range_get {l : List Nat} {n i : Nat} (h : l.take n = List.range n) (hi : i < n) : l[i]? = some i := by
  have : (l.take n)[i]? = some i := by rw [h]; simp [hi]
  rwa [List.getElem?_take, if_pos hi] at this
def St.sel (s : St) (bl tl : List Nat) : St := ⟨D.rnL (posF bl) (posF tl) s.env, [], s.hp.sel bl tl⟩
theorem weak_sel {C : Cfg} {s : St} (bl tl : List Nat) (hs : SelOk s.hp bl tl) (hb : bl.take C.n0 = List.range C.n0) (ht : tl.take C.m0 = List.range C.m0) : Weak C s (s.sel bl tl) := by
  intro w0 B a w h
  obtain ⟨G, g0, gb, g1, g2, g3, g4⟩ := h
  have h0 := g0.heap
  obtain ⟨_, r2⟩ := sel_get (l := G.r) (bl := bl) fun b hb => by rw [← h0.len]; exact hs.bl_ b hb
  obtain ⟨_, t2⟩ := sel_get (l := G.tk) (bl := tl) fun b hb => by rw [← h0.lent]; exact hs.tl_ b hb
  have hr := Ren.sel h0 hs
  have hinv : Inv w0 B (s.sel bl tl).hp w (G.sel bl tl) := by
    refine g0.ghost (h0.sel hs) ⟨fun b o ho => g0.evo.imm b o ho, fun b n hbn => ?_, fun t T hT => ?_⟩ (fun n hn => ?_) (fun n hn => ?_) fun b o ho => .inl ho
    · have e : bl[b]? = some b := take_range_get hb (by rw [← gb.1]; exact lt_of_get hbn)
      exact (r2 b b e).trans (g0.evo.ref b n hbn)
    · have e : tl[t]? = some t := take_range_get ht (by rw [← gb.2]; exact lt_of_get hT)
      obtain ⟨T', q1, q2⟩ := g0.evo.tok t T hT
      exact ⟨T', (t2 t t e).trans q1, q2⟩
    · obtain ⟨c, _, hc⟩ := mem_sel hn
      exact .inl (List.mem_of_getElem? hc)
    · obtain ⟨U, hU, hUb⟩ := mem_blks.1 hn
      obtain ⟨u, _, hu⟩ := mem_sel hU
      exact .inl (mem_blks.2 ⟨U, List.mem_of_getElem? hu, hUb⟩)
  refine ⟨G.sel bl tl, hinv, gb, g1, g2, by simpa [St.sel, rnL_length] using g3, fun t => ?_⟩
  have := g4 t
  unfold St.slot at *
  split
  · rename_i i hi
    rw [hi] at this
    simp only [St.sel, rnL_getD]
    exact Rel.rn _ hr this
  · simp [St.sel, lk, Rel]
def St.toSl (s : St) (i t k n cap : Nat) (cs : List D) : St := ⟨s.env.set i (.sl s.hp.H.length k 0 n cap), [], ⟨s.hp.H ++ [.cells cs], s.hp.tk.set t (.per k (n + 1))⟩⟩
theorem relL_undef {w : World} {g : Gh} : ∀ (xs : List Value), RelL w g (List.replicate xs.length .undef) xs
  | [] => RelL.nil
  | x :: xs => by
    simp only [List.length_cons, List.replicate_succ]
    exact RelL.cons (by simp [Rel]) (relL_undef xs)
theorem swp_sl {C : Cfg} {rc : RC} {Q : Ex → St → Prop} {s : St} (i t k n : Nat) (cs : List D) (hs : s.env.getD i .undef = .gs t n) (hb : s.hp.tk[t]? = some (.chg k cs)) (hl : cs.length = n * k) (hm : C.m0 = 0) (hn : 0 < n)
    (h : ∀ cap, n ≤ cap → SWp C rc Q (s.toSl i t k n cap (cs ++ List.replicate ((cap - n) * k) .undef))) : SWp C rc Q s := by
  refine ⟨fun c hc w0 B hA a w hsim => ?_⟩
  obtain ⟨G, g0, gb, g1, g2, g3, g4⟩ := hsim
  have h0 := g0.heap
  obtain ⟨T, hT, ⟨hk, hcl, hz, hv⟩, hok⟩ := h0.tokBlk hb
  have hTm := List.mem_of_getElem? hT
  subst hk
  have hnT : n = T.len := Nat.eq_of_mul_eq_mul_right hok.1 (hl.symm.trans hcl)
  subst hnT
  obtain ⟨b, hbT⟩ : ∃ b, T.blk = some b := by
    cases e : T.blk with
    | none => have := (hz e).1; omega
    | some b => exact ⟨b, rfl⟩
  obtain ⟨hnI, xs, e, x1, x2⟩ := hv b hbT
  obtain ⟨ad, hbr, hlc, xs', e', y1, y2, y3⟩ := hok.2.2 b hbT
  rw [x1] at y1
  simp only [Option.some.injEq, Obj.cells.injEq] at y1
  obtain ⟨rfl, rfl, _⟩ := y1
  have hxl : xs.toList.length = T.cap * T.k := by rw [Array.length_toList, y2]
  have hle : T.len * T.k ≤ T.cap * T.k := Nat.mul_le_mul_right _ hlc
  have hrest : (xs.toList.drop (T.len * T.k)).length = (T.cap - T.len) * T.k := by rw [List.length_drop, hxl, Nat.sub_mul]
  have hnew : w0.heap.size ≤ b := by
    rcases g0.newt b (mem_blks.2 ⟨T, hTm, hbT⟩) with q | q
    · have : B.tk = [] := List.eq_nil_of_length_eq_zero (by rw [gb.2, hm])
      rw [this] at q; simp [blks] at q
    · exact q
  have hbl : b < w.heap.size := (h0.tok T hTm).lt hbT
  let T' : Tk := ⟨none, none, T.len + 1, T.k, T.len + 1⟩
  let G' : Gh := ⟨G.r ++ [b], G.tk.set t T', G.I⟩
  have htl : t < G.tk.length := lt_of_get hT
  have he : Evo w G w G' := by
    refine ⟨fun c o ho => ⟨ho, rfl⟩, fun c m hc => ?_, fun u U hU => ?_⟩
    · show (G.r ++ [b])[c]? = some m
      rw [List.getElem?_append_left (lt_of_get hc)]; exact hc
    · by_cases e : t = u
      · subst e
        rw [hT] at hU; cases hU
        exact ⟨T', by simp [G', htl], rfl, .inr (Nat.lt_succ_self _)⟩
      · exact ⟨U, by simp [G', List.getElem?_set, e, hU], rfl, .inl rfl⟩
  have getT : ∀ (u : Nat) (U : Tk), G'.tk[u]? = some U → (u = t ∧ U = T') ∨ (u ≠ t ∧ G.tk[u]? = some U) := by
    intro u U hU
    simp only [G', List.getElem?_set] at hU
    by_cases e : t = u
    · subst e; simp [htl] at hU; exact .inl ⟨rfl, hU.symm⟩
    · rw [if_neg e] at hU; exact .inr ⟨fun q => e q.symm, hU⟩
  have notb : ∀ (u : Nat) (U : Tk) (m : Nat), u ≠ t → G.tk[u]? = some U → U.blk = some m → m ≠ b := fun u U m hu hU hm q => by
    subst q
    exact hu (tk_inj h0.tokd hU hT hm hbT)
  have hh : HeapRel w G' ⟨s.hp.H ++ [.cells (cs ++ List.replicate ((T.cap - T.len) * T.k) .undef)], s.hp.tk.set t (.per T.k (T.len + 1))⟩ := by
    refine ⟨by simp [G', h0.len], fun c C' m hC hm => ?_, fun m hm => ?_, ?_, by simp [G', h0.lent], fun u V U hV hU => ?_, fun U hU => ?_, ?_, fun c o ho => ⟨(h0.imm c o ho).1, fun j hj => ?_⟩⟩
    · rcases Nat.lt_or_ge c s.hp.H.length with q | q
      · simp only [List.getElem?_append_left q] at hC
        have hm' : G.r[c]? = some m := by
          have : (G.r ++ [b])[c]? = some m := hm
          rwa [List.getElem?_append_left (by rw [← h0.len]; exact q)] at this
        exact (h0.blk c C' m hC hm').evo he
      · simp only [List.getElem?_append_right q] at hC
        have hc0 : c - s.hp.H.length = 0 := by
          have := lt_of_get hC; simp at this; omega
        rw [hc0] at hC; simp at hC; subst hC
        have hm' : (G.r ++ [b])[c]? = some m := hm
        rw [List.getElem?_append_right (by rw [← h0.len]; exact q), ← h0.len, hc0] at hm'
        simp at hm'; subst hm'
        refine ⟨xs.toList, e, by simpa using x1, ?_, y3⟩
        have hr := (x2.append (relL_undef (xs.toList.drop (T.len * T.k))))
        rw [List.take_append_drop, hrest] at hr
        exact RelL.evo _ he hr
    · rcases List.mem_append.1 hm with q | q
      · exact h0.lt m q
      · simp at q; subst q; exact hbl
    · show (G.r ++ [b]).Nodup
      rw [List.nodup_append]
      refine ⟨h0.nodup, by simp, fun x hx y hy q => ?_⟩
      simp at hy; subst hy; subst q; exact hbr hx
    · rcases getT u U hU with ⟨rfl, rfl⟩ | ⟨q1, q2⟩
      · have : V = .per T.k (T.len + 1) := by
          have hl' : u < s.hp.tk.length := by rw [h0.lent]; exact htl
          simp [hl'] at hV; exact hV.symm
        subst this
        exact ⟨rfl, rfl, fun b' hb' => by simp [T'] at hb'⟩
      · have hV' : s.hp.tk[u]? = some V := by
          simp only [List.getElem?_set] at hV
          rwa [if_neg (fun q => q1 q.symm)] at hV
        exact (h0.tv u V U hV' q2).evo he (fun _ _ _ ho => ho) fun _ _ => rfl
    · obtain ⟨u, hu⟩ := List.mem_iff_getElem?.1 hU
      rcases getT u U hu with ⟨rfl, rfl⟩ | ⟨q1, q2⟩
      · exact ⟨hok.1, fun _ => rfl, fun b' hb' => by simp [T'] at hb'⟩
      · refine (h0.tok U (List.mem_of_getElem? q2)).keep (fun _ _ => rfl) fun m hm hmr hmr' => ?_
        rcases List.mem_append.1 hmr' with p | p
        · exact hmr p
        · simp at p; exact notb u U m q1 q2 hm p
    · refine nodup_blks fun i j U V m hi hj hU hV => ?_
      rcases getT i U hi with ⟨rfl, rfl⟩ | ⟨q1, q2⟩
      · simp [T'] at hU
      · rcases getT j V hj with ⟨rfl, rfl⟩ | ⟨p1, p2⟩
        · simp [T'] at hV
        · exact tk_inj h0.tokd q2 p2 hU hV
    · have hj' : (G.r ++ [b])[j]? = some c := hj
      rcases Nat.lt_or_ge j G.r.length with q | q
      · rw [List.getElem?_append_left q] at hj'
        show (s.hp.H ++ _)[j]? = _
        rw [List.getElem?_append_left (by rw [h0.len]; exact q)]
        exact (h0.imm c o ho).2 j hj'
      · exfalso
        rw [List.getElem?_append_right q] at hj'
        have := List.mem_of_getElem? hj'
        simp at this; subst this
        exact hnI o ho
  have hinv : Inv w0 B ⟨s.hp.H ++ [.cells (cs ++ List.replicate ((T.cap - T.len) * T.k) .undef)], s.hp.tk.set t (.per T.k (T.len + 1))⟩ w G' := by
    refine g0.ghost hh (g0.evo.trans he) (fun m hm => ?_) (fun m hm => ?_) fun c o ho => .inl ho
    · rcases List.mem_append.1 hm with q | q
      · exact .inl q
      · simp at q; subst q; exact .inr hnew
    · obtain ⟨U, hU, hUb⟩ := mem_blks.1 hm
      obtain ⟨u, hu⟩ := List.mem_iff_getElem?.1 hU
      rcases getT u U hu with ⟨rfl, rfl⟩ | ⟨q1, q2⟩
      · simp [T'] at hUb
      · exact .inl (mem_blks.2 ⟨U, List.mem_of_getElem? q2, hUb⟩)
  refine (h T.cap hlc).run c hc w0 B hA a w ⟨G', hinv, gb, g1, g2, by simpa [St.toSl] using g3, fun u => ?_⟩
  have := g4 u
  unfold St.slot at *
  split
  · rename_i j hj
    rw [hj] at this
    simp only at this ⊢
    by_cases e : i = j
    · subst e
      rw [hs] at this
      have hlt : i < s.env.length := by
        rcases Nat.lt_or_ge i s.env.length with q | q
        · exact q
        · simp [List.getD, List.getElem?_eq_none q] at hs
      simp only [Rel] at this
      obtain ⟨ad', cap', T1, p1, p2, p3, p4, p5⟩ := this
      rw [hT] at p3; cases p3
      obtain ⟨rfl, rfl, _⟩ := p5 rfl
      have e1 : (s.toSl i t T.k T.len T.cap (cs ++ List.replicate ((T.cap - T.len) * T.k) .undef)).env.getD i .undef = .sl s.hp.H.length T.k 0 T.len T.cap := by
        simp [St.toSl, List.getD, hlt]
      rw [e1]
      simp only [Rel]
      refine ⟨b, 0, ?_, by rw [p1, ad], fun _ => rfl⟩
      show (G.r ++ [b])[_]? = _
      rw [h0.len, List.getElem?_append_right (Nat.le_refl _)]; simp
    · have e1 : (s.toSl i t T.k T.len T.cap (cs ++ List.replicate ((T.cap - T.len) * T.k) .undef)).env.getD j .undef = s.env.getD j .undef := by
        simp [St.toSl, List.getD, List.getElem?_set, e]
      rw [e1]
      exact Rel.evo _ he this
  · simp [St.toSl, lk, Rel]
end GoV
end
section
set_option linter.unusedSimpArgs false
set_option linter.unusedVariables false
namespace GoV
open Go
theorem call_same {M : Mod} {f : FuncId} {first cap args : List D} {hp : Hp} {K R : D → Hp → Prop} (h : Eff M f (first ++ args ++ cap) hp R) (hk : ∀ d hp1, R d hp1 → K d hp1) : CallOp M (.fn (.func f) first cap :: args) hp K := by
  intro w0 B w G vs hA hi hr
  obtain ⟨fv, av, rfl, h1, h2⟩ := hr.inv
  simp only [Rel] at h1
  obtain ⟨xs, ys, rfl, h3, h4⟩ := h1
  refine .inl ⟨f, xs.toArray, ys.toArray, av, rfl, h.1, ?_⟩
  have hamb : M.amb w G.own := M.up _ _ _ _ hA.1 hi.keeps fun n hn => hi.new n hn
  have hcall := h.2 w G (xs ++ av ++ ys) hamb hi.heap ((h3.append h2).append h4)
  have e : (xs.toArray ++ av.toArray ++ ys.toArray) = (xs ++ av ++ ys).toArray := by simp
  rw [e]
  refine Calls.mono hcall fun e w' hp' => ?_
  obtain ⟨v, d, hp1, g1, rfl, hR, g3, g4⟩ := hp'
  exact ⟨v, d, hp1, g1, rfl, hk d hp1 hR, hi.join g3, g3.evo, g4⟩
mutual
def D.nn : D → D
  | .slice es o => .slice (D.nnL es) o
  | .agg cs => .agg (D.nnL cs)
  | .tup vs => .tup (D.nnL vs)
  | .lit (.slice none 0 0) => .slice [] .no
  | d => d
def D.nnL : List D → List D
  | [] => []
  | d :: ds => D.nn d :: D.nnL ds
end
mutual
theorem Rel.nn {w : World} {g : Gh} : ∀ (d : D) {x : Value}, Rel w g d x → Rel w g d.nn x
  | .slice es o, x, h => by
    simp only [D.nn]
    simp only [Rel] at h ⊢
    have hl : (D.nnL es).length = es.length := nnL_length es
    obtain ⟨a, cap, k, xs, h1, h2, h3, h4, h5, h6⟩ := h
    refine ⟨a, cap, k, xs, ?_, by rw [hl]; exact h2, RelL.nn es h3, h4, h5, by rw [hl]; exact h6⟩
    rcases h1 with h1 | ⟨h1, rfl, h8⟩
    · exact .inl (by rw [hl]; exact h1)
    · exact .inr ⟨h1, rfl, h8⟩
  | .agg cs, x, h => by
    simp only [D.nn]
    simp only [Rel] at h ⊢
    obtain ⟨xs, h1, h2, h3⟩ := h
    exact ⟨xs, h1, RelL.nn cs h2, h3⟩
  | .tup cs, x, h => by
    simp only [D.nn]
    simp only [Rel] at h ⊢
    obtain ⟨xs, h1, h2⟩ := h
    exact ⟨xs, h1, RelL.nn cs h2⟩
  | .lit v, x, h => by
    unfold D.nn
    split
    · simp_all
    · simp_all
    · simp_all
    · rename_i e
      simp only [D.lit.injEq] at e
      subst e
      simp only [Rel] at h ⊢
      obtain ⟨rfl, _⟩ := h
      exact ⟨⟨0, 0, none⟩, 0, 0, [], .inr ⟨by simp, by simp, rfl⟩, by simp, RelL.nil, by simp, At.nil, trivial⟩
    · exact h
  | .undef, x, h => h
  | .skip, x, h => h
  | .int _ _, x, h => h
  | .bool _, x, h => h
  | .str _, x, h => h
  | .iface _ _, x, h => h
  | .fn _ _ _, x, h => h
  | .ptr _ _, x, h => h
  | .ip _, x, h => h
  | .sl _ _ _ _ _, x, h => h
  | .gs _ _, x, h => h
  | .gp _ _ _, x, h => h
  | .mp _, x, h => h
theorem RelL.nn {w : World} {g : Gh} : ∀ (ds : List D) {xs : List Value}, RelL w g ds xs → RelL w g (D.nnL ds) xs
  | [], xs, h => h
  | d :: ds, xs, h => by
    obtain ⟨y, ys, rfl, h1, h2⟩ := h.inv
    exact RelL.cons (Rel.nn d h1) (RelL.nn ds h2)
theorem nnL_length : ∀ ds : List D, (D.nnL ds).length = ds.length
  | [] => rfl
  | d :: ds => by simp [D.nnL, nnL_length ds]
end
theorem pur_res {M : Mod} {f : FuncId} {args : List D} {d d' : D} (h : Pur M f args d) (e : d.nn = d') : Pur M f args d' :=
  ⟨h.1, fun w g xs hA hh hr => Calls.mono (h.2 w g xs hA hh hr) fun en w' ⟨v, d1, hp1, g1, e1, ⟨e2, e3⟩, h1, h2⟩ => ⟨v, d', hp1, g1, e1, ⟨rfl, e3⟩, h1, by subst e2; subst e; exact Rel.nn _ h2⟩⟩
section
variable {P : Mod} {dst : Dst} {r : List RO} {rq : List (RO × Bool)} {K : St → Prop} {s : St} {ds : List D}
theorem o_same {f : FuncId} {first cap args : List D} {hp0 hp1 : Hp} {d : D} (h : Eff P f args hp0 fun d' hp' => d' = d ∧ hp' = hp1) (he : first ++ ds ++ cap = args) (hh : s.hp = hp0)
    (hk : opsWp P r K ({ s with hp := hp1 }.put dst d)) : OpS P .call (.fn (.func f) first cap :: ds) dst r K s := by
  unfold OpS OcWp
  simp only [isCall, if_true]
  subst he; subst hh
  exact call_same h (by rintro d' hp' ⟨rfl, rfl⟩; exact hk)
end
end GoV
end
section
set_option linter.unusedSimpArgs false
set_option linter.unusedVariables false
namespace GoV
open Go
theorem eff_cut {M : Mod} {f : FuncId} {args : List D} {hp hp1 hp2 : Hp} {d0 d1 : D} (n m : Nat) (h : Eff M f args hp fun d h => d = d0 ∧ h = hp1) (hn : hp.H.length ≤ n) (hm : hp.tk.length ≤ m)
    (ed : d0.rn (cutF n) (cutF m) = d1) (eh : hp1.cut n m = hp2) : Eff M f args hp fun d h => d = d1 ∧ h = hp2 := by
  refine ⟨h.1, fun w g xs hA hh hr => Calls.mono (h.2 w g xs hA hh hr) fun e w' ⟨v, d, hp', g', e1, ⟨e2, e3⟩, h1, h2⟩ => ?_⟩
  subst e2; subst e3
  exact ⟨v, _, _, g'.cut n m, e1, ⟨ed, eh⟩, h1.cut n m (by rw [← hh.len]; exact hn) (by rw [← hh.lent]; exact hm), Rel.rn _ (Ren.cut g' n m) h2⟩
end GoV
end
section
set_option linter.unusedSimpArgs false
set_option linter.unusedVariables false
namespace GoV
open Go
section
variable {C : Cfg} {x y : RC} {s s' : St} {i j : Nat}
end
end GoV
end
section
set_option linter.unusedSimpArgs false
set_option linter.unusedVariables false
set_option maxHeartbeats 1000000
namespace GoV
open Go
section
variable {P : Program} {ρ : Operand → Value} {o : Oper} {w0 : World} {g0 : Gh} {hp : Hp} {w : World} {g : Gh} {K : D → Hp → Prop}
theorem done_newG {t : TypeId} {z : List D} {tt : Nat} (hop : o.op = .alloc t) (hz : zeroDs P t = some z) (hi : Inv w0 g0 hp w g) (hpos : 0 < z.length) (hV : hp.tk[tt]? = some (.chg z.length []))
    (h : K (.gp tt 1 0) { hp with tk := hp.tk.set tt (.chg z.length z) }) : Done P ρ o w0 g0 w g K := by
  obtain ⟨i, zv, h1, h2, h3⟩ := zeroDs_spec hz
  obtain ⟨f1, f2⟩ := toDs_rel (w := w) (g := g) h3
  obtain ⟨T, hgT, ⟨hk, hcs, hn0, hIb⟩, hok⟩ := hi.heap.tokBlk hV
  have hT0 : T.len = 0 := by
    rcases Nat.eq_zero_or_pos T.len with q | q
    · exact q
    · have := Nat.mul_pos q hok.1
      simp only [List.length_nil] at hcs
      omega
  have hlen : zv.cells.toList.length = z.length := f1.length
  obtain ⟨q1, q2⟩ := hi.goTok (w' := w.alloc (.cells zv.cells.toList.toArray t (0, 0))) (T' := ⟨some w.heap.size, some ⟨w.heap.size, 0, none⟩, 1, T.k, 1⟩) (I' := g.I) (V' := .chg z.length z) hgT rfl (.inr (by simp only [hT0]; omega))
    (fun n hlt _ => heap_alloc_lt w _ n hlt) (by simp) rfl rfl rfl (fun n hn => by simp at hn; subst hn; exact .inr (Nat.le_refl _)) (fun c o ho => ⟨ho, cell_of_heap (heap_alloc_lt w _ c (hi.heap.imm c o ho).1)⟩) (fun c o ho => .inl ho)
    ⟨hok.1, by simp, fun c hc => by simp at hc; subst hc; exact ⟨rfl, fun hm => by have := hi.heap.lt _ hm; omega, Nat.le_refl _, _, t, heap_alloc_at w _, by rw [List.size_toArray, hlen, ← hk]; simp, by simpa using f2⟩⟩
    (fun he => ⟨hk, by simp only [hk]; omega, by simp, fun c hc => by
      simp at hc; subst hc
      refine ⟨fun o ho => ?_, _, t, heap_alloc_at w _, ?_⟩
      · have := (hi.heap.imm _ o ho).1; omega
      · have e : (zv.cells.toList.toArray.toList.take (1 * T.k)) = zv.cells.toList := by
          rw [List.toList_toArray, Nat.one_mul, ← hk, ← hlen, List.take_length]
        rw [e]
        exact RelL.evo _ he f1.any⟩)
  refine ⟨_, _, _, .pointer (some ⟨w.heap.size, 0, none⟩), _, h, q1, q2, ?_, .inl ?_⟩
  · simp only [Rel]
    exact ⟨_, _, rfl, set_get hgT, Nat.le_refl _, fun _ => ⟨_, rfl, rfl⟩⟩
  · simp [execOp, hop, Instr.alloc, zeroValue, typeInfo, h1, h2, newVar, newRow]
end
theorem resolve_newb {P : Program} {op : Op} {z : List D} {xs : List Operand} (h : resolveOp P op = some (.newb z, xs)) : ∃ t, op = .alloc t ∧ zeroDs P t = some z := by
  cases op <;> simp only [resolveOp] at h <;> try (cases h; done)
  case alloc t =>
    cases hz : zeroDs P t with
    | none => simp [hz] at h
    | some z' =>
      simp only [hz, Option.map_some, Option.some.injEq, Prod.mk.injEq] at h
      obtain ⟨h, _⟩ := h
      split at h
      · cases h
      · cases h; exact ⟨t, rfl, hz⟩
  all_goals exfalso
  case convert => simp only [Option.map_eq_some_iff, Prod.mk.injEq] at h; obtain ⟨oc, h1, rfl, _⟩ := h; unfold resCv at h1; (repeat' split at h1) <;> simp at h1
  case buildSlice => simp only [Option.map_eq_some_iff, Prod.mk.injEq] at h; obtain ⟨oc, h1, rfl, _⟩ := h; unfold resBsl at h1; (repeat' split at h1) <;> simp at h1
  case makeSlice => simp only [Option.map_eq_some_iff, Prod.mk.injEq] at h; obtain ⟨oc, h1, rfl, _⟩ := h; unfold resMks at h1; (repeat' split at h1) <;> simp at h1
  case slice =>
    split at h
    · simp only [Option.map_eq_some_iff, Prod.mk.injEq] at h; obtain ⟨oc, h1, rfl, _⟩ := h; unfold resSlc at h1; (repeat' split at h1) <;> simp at h1
    · split at h
      · simp only [Option.map_eq_some_iff, Prod.mk.injEq] at h; obtain ⟨oc, h1, h2, _⟩ := h; cases h2
      · cases h
  case call c =>
    simp only [resCall] at h
    cases hc : c.callee with
    | value g => simp [hc] at h
    | invoke r m => simp [hc] at h
    | builtin b =>
      cases b <;> simp only [hc] at h <;> try (cases h; done)
      all_goals (repeat' split at h) <;> simp_all
  all_goals try unfold resBin at h
  all_goals (repeat' split at h) <;> simp_all
def Fill (oc : OC) (ds : List D) (hp hp1 : Hp) (d : D) : Prop :=
  ∃ z t, oc = .newb z ∧ ds = [] ∧ 0 < z.length ∧ hp.tk[t]? = some (.chg z.length []) ∧ d = .gp t 1 0 ∧ hp1 = { hp with tk := hp.tk.set t (.chg z.length z) }
def OcG (M : Mod) (oc : OC) (ds : List D) (hp hp1 : Hp) (d : D) : Prop := OcWp M oc ds hp (fun d' hp' => d' = d ∧ hp' = hp1) ∨ Fill oc ds hp hp1 d
def StepG (C : Cfg) (ops : Array Oper) (hp hp1 : Hp) (σ : Nat → D) (o : Oper) (d : D) : Prop :=
  ∃ oc xs, resolveOp C.P o.op = some (oc, xs) ∧ (∃ ys, resOs C xs = some ys) ∧ (∃ ds, resDst C o.dst = some ds) ∧
    ((o.guard = none ∧ OcG C.M oc (xs.map (evO σ)) hp hp1 d) ∨
     ∃ j want t, o.guard = some (j, want) ∧ (ops[j]?).bind (·.dst) = some t ∧ t < C.nt ∧
      ((σ t = .bool want ∧ OcG C.M oc (xs.map (evO σ)) hp hp1 d) ∨ (σ t = .bool (!want) ∧ d = .skip ∧ hp1 = hp) ∨ (σ t = .skip ∧ d = .skip ∧ hp1 = hp)))
section
variable {C : Cfg} {w0 : World} {B : Gh}
theorem StepG.congr {ops : Array Oper} {hp hp1 : Hp} {σ σ' : Nat → D} {o : Oper} {d : D} (h : StepG C ops hp hp1 σ o d) (hs : ∀ t ∈ o.looksAt ops, σ t = σ' t) : StepG C ops hp hp1 σ' o d := by
  obtain ⟨oc, xs, h1, h2, h3, h4⟩ := h
  have hm : xs.map (evO σ) = xs.map (evO σ') := by
    refine List.map_congr_left fun x hx => ?_
    have := resolve_sub h1 x hx
    cases x with
    | tmp t =>
      refine hs t ?_
      simp only [Oper.looksAt, List.mem_append, List.mem_filterMap]
      exact .inl ⟨.tmp t, by simpa using this, rfl⟩
    | _ => rfl
  refine ⟨oc, xs, h1, h2, h3, ?_⟩
  rw [← hm]
  rcases h4 with h4 | ⟨j, want, t, g1, g2, g3, g4⟩
  · exact .inl h4
  · refine .inr ⟨j, want, t, g1, g2, g3, ?_⟩
    rw [← hs t (by simp [Oper.looksAt, g1, g2])]
    exact g4
theorem StepG.sound {ro : Option Nat} (hA : C.M.start w0 B) {ops : Array Oper} {hp hp1 : Hp} {σ : Nat → D} {o : Oper} {d : D} {Q : Exit → Act → World → Prop} {next : Act → World → Prop} (h : StepG C ops hp hp1 σ o d) {a : Act} {w : World} (hs : SimF C w0 B σ hp a w)
    (ih : ∀ a w, SimF C w0 B (updO σ o.dst d) hp1 a w → next a w) :
    if Region.wanted o (yielded ops a.tmps) then o.wpIn (FR ro) 0 C.P a w next Q else (∀ f, o.about C.P w a.eval = some f → (FR ro).fn f) ∧ next (a.put o.dst Go.undef) w := by
  obtain ⟨oc, xs, h1, ⟨ys, h2⟩, ⟨ds, h3⟩, h4⟩ := h
  obtain ⟨G, hi, gb, g1, g2, g4⟩ := hs
  have run : OcG C.M oc (xs.map (evO σ)) hp hp1 d → o.wpIn (FR ro) 0 C.P a w next Q := by
    rintro (hoc | ⟨z, t, rfl, _, hpos, hV, rfl, rfl⟩)
    · refine OcWp_sound h1 hA hi (rel_evO g4 h2) hoc ?_
      rintro d' hp' G' v w' ⟨rfl, rfl⟩ k2 k3 k4
      refine ih _ _ ⟨G', k2, gb, by rw [actput_size]; exact g1, by rw [actput_def]; exact g2, ?_⟩
      exact updO_rel (fun t => Rel.evo _ k3 (g4 t)) g1 h3 k4
    · obtain ⟨ty, hop, hz⟩ := resolve_newb h1
      obtain ⟨d', hp', G', v, w', ⟨rfl, rfl⟩, k2, k3, k4, k5⟩ := done_newG (ρ := a.eval) (o := o) (K := fun d' hp' => d' = .gp t 1 0 ∧ hp' = { hp with tk := hp.tk.set t (.chg z.length z) }) hop hz hi hpos hV ⟨rfl, rfl⟩
      have hnd : ∀ c, o.op ≠ .defer c := by
        intro c hc
        rw [hop] at hc; cases hc
      unfold Oper.wpIn
      rw [Oper.semAt_eq _ _ _ hnd]
      refine ⟨fun _ _ => trivial, ?_⟩
      have fin : next (a.put o.dst v) w' := ih _ _ ⟨G', k2, gb, by rw [actput_size]; exact g1, by rw [actput_def]; exact g2, updO_rel (fun t => Rel.evo _ k3 (g4 t)) g1 h3 k4⟩
      rcases k5 with k5 | ⟨k5, rfl⟩ <;> rw [k5] <;> exact fin
  have skp : d = .skip ∧ hp1 = hp → next (a.put o.dst Go.undef) w := by
    rintro ⟨rfl, rfl⟩
    refine ih _ _ ⟨G, hi, gb, by rw [actput_size]; exact g1, by rw [actput_def]; exact g2, ?_⟩
    exact updO_rel g4 g1 h3 (by simp [Rel])
  rcases h4 with ⟨hog, h4⟩ | ⟨j, want, t, hog, hj, htn, h4⟩
  · simp only [Region.wanted, hog, if_true]; exact run h4
  · have hlt : t < a.tmps.size := g1.symm ▸ htn
    have hy : yielded ops a.tmps j = match a.tmps.getD t Go.undef with | .bool b => some b | _ => none := by
      simp [yielded, hj, Array.getD_eq_getD_getElem?, hlt]
      cases a.tmps[t] <;> rfl
    have hrel := g4 t
    rcases h4 with ⟨e, h4⟩ | ⟨e, h4⟩ | ⟨e, h4⟩
    · rw [e] at hrel; simp only [Rel] at hrel
      have : Region.wanted o (yielded ops a.tmps) = true := by
        simp only [Region.wanted, hog]; rw [hy, hrel]; cases want <;> rfl
      rw [this]; simp only [if_true]; exact run h4
    · rw [e] at hrel; simp only [Rel] at hrel
      have : Region.wanted o (yielded ops a.tmps) = false := by
        simp only [Region.wanted, hog]; rw [hy, hrel]; cases want <;> rfl
      rw [this]; simp only [Bool.false_eq_true, if_false]; exact ⟨fun _ _ => trivial, skp h4⟩
    · rw [e] at hrel; simp only [Rel] at hrel
      have : Region.wanted o (yielded ops a.tmps) = false := by
        simp only [Region.wanted, hog]; rw [hy, hrel]; cases want <;> rfl
      rw [this]; simp only [Bool.false_eq_true, if_false]; exact ⟨fun _ _ => trivial, skp h4⟩
def depB (a b : RO) : Bool := match a.dst with
  | .var n => b.args.any fun x => match x with | .var k => k == n | _ => false
  | .loc n => b.args.any fun x => match x with | .loc k => k == n | _ => false
  | .none => false
theorem resOs_mem {C : Cfg} : ∀ {xs : List Operand} {ys : List Opd}, resOs C xs = some ys → ∀ y ∈ ys, ∃ x ∈ xs, resO C x = some y
  | [], ys, h, y, hy => by simp [resOs] at h; subst h; simp at hy
  | x :: xs, ys, h, y, hy => by
    simp only [resOs] at h
    split at h
    · rename_i y' ys' h1 h2
      simp only [Option.some.injEq] at h
      subst h
      rcases List.mem_cons.1 hy with rfl | hy
      · exact ⟨x, by simp, h1⟩
      · obtain ⟨x', q1, q2⟩ := resOs_mem h2 y hy
        exact ⟨x', by simp [q1], q2⟩
    · cases h
theorem resO_var {C : Cfg} {x : Operand} {n : Nat} (h : resO C x = some (.var n)) : ∃ t, x = .tmp t ∧ idx t C.pers = some n := by
  cases x with
  | tmp t =>
    have := (resO_tmp h).1
    cases hi : idx t C.pers with
    | some i => rw [hi] at this; simp at this; subst this; exact ⟨t, rfl, hi⟩
    | none => rw [hi] at this; simp at this
  | _ => exfalso; simp only [resO] at h; (repeat' split at h) <;> simp_all
theorem resO_loc {C : Cfg} {x : Operand} {n : Nat} (h : resO C x = some (.loc n)) : x = .tmp n ∧ idx n C.pers = none := by
  cases x with
  | tmp t =>
    have := (resO_tmp h).1
    cases hi : idx t C.pers with
    | some i => rw [hi] at this; simp at this
    | none => rw [hi] at this; simp at this; subst this; exact ⟨rfl, hi⟩
  | _ => exfalso; simp only [resO] at h; (repeat' split at h) <;> simp_all
theorem resOp1_inv {C : Cfg} {ops : Array Oper} {o : Oper} {x : RO} (h : resOp1 C ops o = some x) : ∃ xs, resolveOp C.P o.op = some (x.oc, xs) ∧ resOs C xs = some x.args ∧ resDst C o.dst = some x.dst := by
  unfold resOp1 at h
  split at h
  · rename_i oc xs h1
    split at h
    · rename_i args dst guard h2 h3 h4
      simp only [Option.some.injEq] at h
      subst h
      exact ⟨xs, h1, h2, h3⟩
    · cases h
  · cases h
theorem resDst_var {C : Cfg} {o : Option Nat} {n : Nat} (h : resDst C o = some (.var n)) : ∃ t, o = some t ∧ idx t C.pers = some n := by
  cases o with
  | none => simp [resDst] at h
  | some t =>
    simp only [resDst] at h
    split at h
    · cases hi : idx t C.pers with
      | some i => rw [hi] at h; simp at h; subst h; exact ⟨t, rfl, hi⟩
      | none => rw [hi] at h; simp at h
    · cases h
theorem resDst_loc {C : Cfg} {o : Option Nat} {n : Nat} (h : resDst C o = some (.loc n)) : o = some n := by
  cases o with
  | none => simp [resDst] at h
  | some t =>
    simp only [resDst] at h
    split at h
    · cases hi : idx t C.pers with
      | some i => rw [hi] at h; simp at h
      | none => rw [hi] at h; simp at h; subst h; rfl
    · cases h
theorem depB_op {C : Cfg} {ops : Array Oper} {oi oj : Oper} {a b : RO} (h1 : resOp1 C ops oi = some a) (h2 : resOp1 C ops oj = some b) (h : depB a b = true) : ∃ t, oi.dst = some t ∧ t ∈ namesOf ops oj := by
  obtain ⟨xi, _, _, e1⟩ := resOp1_inv h1
  obtain ⟨xj, q1, q2, _⟩ := resOp1_inv h2
  have mem : ∀ t, Operand.tmp t ∈ xj → t ∈ namesOf ops oj := fun t ht => by
    have := resolve_sub q1 _ ht
    simp only [namesOf, Oper.looksAt, List.mem_append, List.mem_filterMap]
    exact .inr (.inl ⟨.tmp t, by simpa using this, rfl⟩)
  unfold depB at h
  split at h
  · rename_i n e
    rw [e] at e1
    obtain ⟨t, f1, f2⟩ := resDst_var e1
    obtain ⟨y, hy, h⟩ := List.any_eq_true.1 h
    split at h
    · rename_i k
      simp only [beq_iff_eq] at h
      subst h
      obtain ⟨x, hx, f3⟩ := resOs_mem q2 _ hy
      obtain ⟨t', rfl, f4⟩ := resO_var f3
      have e2 := idx_some f2; have e3 := idx_some f4
      rw [e2] at e3; cases e3
      exact ⟨t, f1, mem t hx⟩
    · cases h
  · rename_i n e
    rw [e] at e1
    have f1 := resDst_loc e1
    obtain ⟨y, hy, h⟩ := List.any_eq_true.1 h
    split at h
    · rename_i k
      simp only [beq_iff_eq] at h
      subst h
      obtain ⟨x, hx, f3⟩ := resOs_mem q2 _ hy
      obtain ⟨rfl, _⟩ := resO_loc f3
      exact ⟨_, f1, mem _ hx⟩
    · cases h
  · cases h
def Lg (L : List (Nat × Nat)) (E : Nat → Bool) : Prop := ∀ p ∈ L, E p.2 = true → E p.1 = true
def Rdy (L : List (Nat × Nat)) (i : Nat) (E : Nat → Bool) : Prop := ∀ p ∈ L, p.2 = i → E p.1 = true
theorem draw_soundG {ro : Option Nat} (hA : C.M.start w0 B) {ops : Array Oper} {m : Nat} {ros : List RO} {K : St → Prop} {Q : Exit → Act → World → Prop} (hB : drawOk ops m = true) (hm : m ≤ ops.size) (hr : resOps C ops (List.range' 0 ops.size) = some ros)
    (hQ : ∀ s a w, K s → Sim C w0 B s a w → Q .normal a w) {s : St} (_hl : s.env.length = C.pers.length)
    {ds : Nat → D} {F : (Nat → Bool) → Hp} {s1 : St} (hk1 : opsWp C.M (ros.drop m) K s1) (hpm : F (fun j => decide (j < m)) = s1.hp) (hl1 : s1.env.length = C.pers.length)
    {L : List (Nat × Nat)} (hDp : ∀ p ∈ L, p.1 < p.2 ∧ p.2 < m ∧ ∃ oi oj t, ops[p.1]? = some oi ∧ ops[p.2]? = some oj ∧ oi.dst = some t ∧ t ∈ namesOf ops oj)
    (hst : ∀ i, i < m → ∃ o, ops[i]? = some o ∧ ∀ E : Nat → Bool, E i = false → Lg L E → Rdy L i E → StepG C ops (F E) (F (fun j => E j || j == i)) (sig ops (s.slot C.pers) ds (fun _ => true) i) o (ds i))
    (hend : sig ops (s.slot C.pers) ds (fun _ => true) m = s1.slot C.pers) :
    ∀ (fuel : Nat) (listed : Array Bool) (a : Act) (w : World), listed.size = ops.size → unl listed.toList ≤ fuel →
      (∀ j oj, ops[j]? = some oj → listed.getD j false = true → ∀ e ∈ oj.after, Region.binds .any e = true → listed.getD e.on false = true) →
      (((∀ j, listed.getD j false = true → j < m) ∧ SimF C w0 B (sig ops (s.slot C.pers) ds (fun j => listed.getD j false) m) (F (fun j => listed.getD j false)) a w) ∨
        ∃ i s', m ≤ i ∧ (∀ j, j < ops.size → (listed.getD j false = true ↔ j < i)) ∧ Sim C w0 B s' a w ∧ opsWp C.M (ros.drop i) K s') →
      wpAnyIn (FR ro) 0 C.P .any ops Q fuel listed a w := by
  have hros : ros.length = ops.size := by rw [resOps_length _ _ hr]; simp
  have hsub : ∀ (listed : Array Bool), (∀ j oj, ops[j]? = some oj → listed.getD j false = true → ∀ e ∈ oj.after, Region.binds .any e = true → listed.getD e.on false = true) →
      ∀ j oj, ops[j]? = some oj → (∀ e ∈ oj.after, Region.binds .any e = true → listed.getD e.on false = true) → ∀ i ∈ (befores ops.toList).getD j [], listed.getD i false = true := by
    intro listed hcl j
    induction j using Nat.strongRecOn with
    | _ j ih =>
      intro oj hj ha i hi
      obtain ⟨e, he, hbd, h1⟩ := mem_befores (by simpa using hj) hi
      rcases h1 with h1 | h1
      · rw [h1]; exact ha e he hbd
      · have hlt := (drawOk_spec hB hj).1 e he hbd
        have hjs : j < ops.size := (Array.getElem?_eq_some_iff.1 hj).1
        have hoe : ops[e.on]? = some ops[e.on] := Array.getElem?_eq_getElem (by omega)
        exact ih e.on hlt _ hoe (hcl e.on _ hoe (ha e he hbd)) i h1
  have hbefL : ∀ p ∈ L, p.1 ∈ (befores ops.toList).getD p.2 [] := fun p hp => by
    obtain ⟨q0, q1, oi, oj, t, q2, q3, q4, q5⟩ := hDp p hp
    obtain ⟨oi', h1, h2⟩ := (drawOk_spec hB q3).2 p.1 q0
    rw [q2] at h1; cases h1
    rcases h2 with h2 | h2
    · exact h2
    · exact absurd q5 ((clash_spec h2.2).1 t q4)
  have conv : ∀ (listed : Array Bool) (a : Act) (w : World), (∀ j, listed.getD j false = true → j < m) → (∀ j, j < m → listed.getD j false = true) →
      SimF C w0 B (sig ops (s.slot C.pers) ds (fun j => listed.getD j false) m) (F (fun j => listed.getD j false)) a w → Sim C w0 B s1 a w := by
    intro listed a w h1 h2 hs
    have e : sig ops (s.slot C.pers) ds (fun j => listed.getD j false) m = s1.slot C.pers := by
      rw [← hend]; funext t
      exact sig_agree m fun j hj _ => h2 j hj
    obtain ⟨G, g1, gb, g2, g3, g4⟩ := hs
    have ef : (fun j => listed.getD j false) = (fun j => decide (j < m)) := by
      funext j
      by_cases q : j < m
      · rw [h2 j q, decide_eq_true q]
      · rw [decide_eq_false q]
        cases hb : listed.getD j false with
        | false => rfl
        | true => exact absurd (h1 j hb) q
    rw [ef] at g1
    exact ⟨G, by rw [← hpm]; exact g1, gb, g2, g3, hl1, by rw [← e]; exact g4⟩
  have fin : ∀ (listed : Array Bool) (a : Act) (w : World), (∀ j, j < ops.size → listed.getD j false = true) →
      (((∀ j, listed.getD j false = true → j < m) ∧ SimF C w0 B (sig ops (s.slot C.pers) ds (fun j => listed.getD j false) m) (F (fun j => listed.getD j false)) a w) ∨
        ∃ i s', m ≤ i ∧ (∀ j, j < ops.size → (listed.getD j false = true ↔ j < i)) ∧ Sim C w0 B s' a w ∧ opsWp C.M (ros.drop i) K s') → Q .normal a w := by
    intro listed a w hall h
    rcases h with ⟨h1, h2⟩ | ⟨i, s', h1, h2, h3, h4⟩
    · have hs1 := conv listed a w h1 (fun j hj => hall j (by omega)) h2
      have hmn : ops.size ≤ m := by
        rcases Nat.eq_zero_or_pos ops.size with g | g
        · omega
        · have := h1 (ops.size - 1) (hall _ (by omega)); omega
      rw [List.drop_eq_nil_of_le (by omega)] at hk1
      exact hQ s1 a w hk1 hs1
    · have hin : ops.size ≤ i := by
        rcases Nat.eq_zero_or_pos ops.size with g | g
        · omega
        · have := (h2 (ops.size - 1) (by omega)).1 (hall _ (by omega)); omega
      rw [List.drop_eq_nil_of_le (by omega)] at h4
      exact hQ s' a w h4 h3
  have least : ∀ (listed : Array Bool), listed.size = ops.size → (∀ j oj, ops[j]? = some oj → listed.getD j false = true → ∀ e ∈ oj.after, Region.binds .any e = true → listed.getD e.on false = true) →
      Region.ready .any ops listed = [] → ∀ j, j < ops.size → listed.getD j false = true := by
    intro listed hsz hcl hr0 j
    induction j using Nat.strongRecOn with
    | _ j ih =>
      intro hj
      cases hb : listed.getD j false with
      | true => rfl
      | false =>
        exfalso
        have hoj : ops[j]? = some ops[j] := Array.getElem?_eq_getElem hj
        have : j ∈ Region.ready .any ops listed := by
          rw [mem_ready]
          refine ⟨?_, ops[j], hoj, fun e he hbd => ?_⟩
          · have hlt : j < listed.size := by omega
            simp [hlt] at hb ⊢; exact hb
          · have := (drawOk_spec hB hoj).1 e he hbd
            exact ih e.on this (by omega)
        rw [hr0] at this; cases this
  intro fuel
  induction fuel with
  | zero =>
    intro listed a w hsz hu hcl h
    have hall : ∀ j, j < ops.size → listed.getD j false = true := by
      intro j hj
      have hlt : j < listed.size := by omega
      have := unl_zero listed.toList (by omega) j (by simpa using hlt)
      simp [hlt] at this ⊢; exact this
    refine ⟨?_, fin listed a w hall h⟩
    cases hr0 : Region.ready .any ops listed with
    | nil => rfl
    | cons i l =>
      have : i ∈ Region.ready .any ops listed := by rw [hr0]; simp
      obtain ⟨h1, o, ho, _⟩ := mem_ready.1 this
      have hlt : i < ops.size := (Array.getElem?_eq_some_iff.1 ho).1
      have h2 := hall i hlt
      have hlt2 : i < listed.size := by omega
      simp [hlt2] at h1 h2; rw [h1] at h2; cases h2
  | succ fuel ih =>
    intro listed a w hsz hu hcl h
    refine ⟨fun hr0 => fin listed a w (least listed hsz hcl hr0) h, fun i hi => ?_⟩
    obtain ⟨hun, o, ho, hdeps⟩ := mem_ready.1 hi
    have hlt : i < ops.size := (Array.getElem?_eq_some_iff.1 ho).1
    have hlt2 : i < listed.size := by omega
    have hunf : listed.getD i false = false := by simp [hlt2] at hun ⊢; exact hun
    have hdeps' : ∀ e ∈ o.after, Region.binds .any e = true → listed.getD e.on false = true := hdeps
    have hbef := hsub listed hcl i o ho hdeps'
    have hcl' : ∀ j oj, ops[j]? = some oj → (listed.setIfInBounds i true).getD j false = true → ∀ e ∈ oj.after, Region.binds .any e = true → (listed.setIfInBounds i true).getD e.on false = true := by
      intro j oj hj hlj e he hbd
      rw [listed_set hlt2] at hlj ⊢
      simp only [Bool.or_eq_true, beq_iff_eq] at hlj ⊢
      rcases hlj with g | g
      · exact .inl (hcl j oj hj g e he hbd)
      · subst g
        rw [ho] at hj; cases hj
        exact .inl (hdeps' e he hbd)
    have hu' : unl (listed.setIfInBounds i true).toList ≤ fuel := by
      have := unl_set listed.toList i (by simp [hlt2] at hunf ⊢; exact hunf)
      simp only [Array.toList_setIfInBounds]; omega
    have hafter : m ≤ i → ∀ j, j < ops.size → (listed.getD j false = true ↔ j < i) := by
      intro hmi j hj
      constructor
      · intro hlj
        rcases Nat.lt_trichotomy j i with g | g | g
        · exact g
        · subst g; rw [hunf] at hlj; cases hlj
        · exfalso
          have hoj : ops[j]? = some ops[j] := Array.getElem?_eq_getElem hj
          obtain ⟨oi, hoi, q⟩ := (drawOk_spec hB hoj).2 i g
          rcases q with q | q
          · have := hsub listed hcl j _ hoj (hcl j _ hoj hlj) i q
            rw [hunf] at this; cases this
          · omega
      · intro hji
        obtain ⟨oi, hoi, q⟩ := (drawOk_spec hB ho).2 j hji
        rcases q with q | q
        · exact hbef j q
        · omega
    unfold wpOpIn
    rw [ho]
    by_cases him : i < m
    · 
      rcases h with ⟨h1, h2⟩ | ⟨i', s', h1, h2, h3, h4⟩
      · obtain ⟨o', ho', hq⟩ := hst i him
        rw [ho] at ho'; cases ho'
        have ords : ∀ j, j < m → j ≠ i → ∀ t, t ∈ namesOf ops o → dstO ops j = some t → (listed.getD j false = true ↔ j < i) := by
          intro j hj hji t ht hd
          have hjs : j < ops.size := by omega
          have hoj : ops[j]? = some ops[j] := Array.getElem?_eq_getElem hjs
          have hdj : ops[j].dst = some t := by simpa [dstO, hoj] using hd
          constructor
          · intro hlj
            rcases Nat.lt_or_ge j i with g | g
            · exact g
            · exfalso
              obtain ⟨oi, hoi, q⟩ := (drawOk_spec hB hoj).2 i (by omega)
              rw [ho] at hoi; cases hoi
              rcases q with q | q
              · have := hsub listed hcl j _ hoj (hcl j _ hoj hlj) i q
                rw [hunf] at this; cases this
              · exact (clash_spec q.2).2 t hdj ht
          · intro g
            obtain ⟨oi, hoi, q⟩ := (drawOk_spec hB ho).2 j g
            rw [hoj] at hoi; cases hoi
            rcases q with q | q
            · exact hbef j q
            · exact absurd ht ((clash_spec q.2).1 t hdj)
        have hlook : ∀ t ∈ o.looksAt ops, sig ops (s.slot C.pers) ds (fun _ => true) i t = sig ops (s.slot C.pers) ds (fun j => listed.getD j false) m t := by
          intro t ht
          have ht' : t ∈ namesOf ops o := by simp [namesOf, ht]
          have e1 : sig ops (s.slot C.pers) ds (fun j => listed.getD j false) m t = sig ops (s.slot C.pers) ds (fun j => listed.getD j false) i t := by
            refine sig_skip m (by omega) fun j g1 g2 g3 hd => ?_
            by_cases hji : j = i
            · subst hji; rw [hunf] at g3; cases g3
            · have := (ords j g2 hji t ht' hd).1 g3; omega
          rw [e1]
          exact sig_agree i fun j hj hd => ((ords j (by omega) (by omega) t ht' hd).2 hj).symm
        obtain ⟨o', x, r1, r2, r3⟩ := resOps_drop _ _ i ros hr hlt
        rw [Nat.zero_add, ho] at r1; cases r1
        have hx : ros[i]? = some x := by
          have := List.getElem?_drop (xs := ros) (i := i) (j := 0)
          rw [r3] at this; simpa using this.symm
        have hL : ∀ j, (listed.setIfInBounds i true).getD j false = (listed.getD j false || j == i) := fun j => listed_set hlt2
        have hstep : StepG C ops (F (fun j => listed.getD j false)) (F (fun j => (listed.setIfInBounds i true).getD j false)) (sig ops (s.slot C.pers) ds (fun _ => true) i) o (ds i) := by
          have e : (fun j => (listed.setIfInBounds i true).getD j false) = fun j => listed.getD j false || j == i := funext hL
          rw [e]
          refine hq _ hunf (fun p hp h2 => ?_) (fun p hp e2 => ?_)
          · obtain ⟨_, _, oi, oj, t, _, q2, _, _⟩ := hDp p hp
            exact hsub listed hcl p.2 _ q2 (hcl p.2 _ q2 h2) p.1 (hbefL p hp)
          · exact hbef p.1 (e2 ▸ hbefL p hp)
        refine StepG.sound hA (hstep.congr hlook) h2 fun a' w' hs' => ih _ a' w' (by simpa using hsz) hu' hcl' (.inl ⟨fun j hj => ?_, ?_⟩)
        · rw [listed_set hlt2] at hj
          simp only [Bool.or_eq_true, beq_iff_eq] at hj
          rcases hj with g | g
          · exact h1 j g
          · omega
        · have e2 : sig ops (s.slot C.pers) ds (fun j => (listed.setIfInBounds i true).getD j false) m = updO (sig ops (s.slot C.pers) ds (fun j => listed.getD j false) m) (dstO ops i) (ds i) := by
            rw [← sig_set him hunf]
            · congr 1; funext j; exact listed_set hlt2
            · intro j t g1 g2 g3 g4 g5
              cases hb : listed.getD j false with
              | false => rfl
              | true =>
                have hoi : o.dst = some t := by simpa [dstO, ho] using g3
                have := (ords j g1 g2 t (by simp [namesOf, hoi]) g4).1 hb
                omega
          rw [e2]
          have : dstO ops i = o.dst := by simp [dstO, ho]
          rw [this]; exact hs'
      · exfalso
        have := (h2 i hlt).2 (by omega)
        rw [hunf] at this; cases this
    · 
      have hmi : m ≤ i := by omega
      have hiff := hafter hmi
      obtain ⟨s', hs', hk'⟩ : ∃ s', Sim C w0 B s' a w ∧ opsWp C.M (ros.drop i) K s' := by
        rcases h with ⟨h1, h2⟩ | ⟨i', s', h1, h2, h3, h4⟩
        · have hie : i = m := by
            rcases Nat.lt_or_ge m i with g | g
            · have := h1 m ((hiff m (by omega)).2 g); omega
            · omega
          subst hie
          exact ⟨s1, conv listed a w h1 (fun j hj => (hiff j (by omega)).2 hj) h2, hk1⟩
        · have hie : i' = i := by
            rcases Nat.lt_trichotomy i' i with g | g | g
            · have q1 := (hiff i' (by omega)).2 g
              have := (h2 i' (by omega)).1 q1; omega
            · exact g
            · have := (h2 i hlt).2 g; rw [hunf] at this; cases this
          subst hie
          exact ⟨s', h3, h4⟩
      obtain ⟨o', x, g1, g2, g3⟩ := resOps_drop _ _ i ros hr hlt
      rw [Nat.zero_add, ho] at g1; cases g1
      rw [g3] at hk'
      refine head_sound hA g2 (K := opsWp C.M (ros.drop (i + 1)) K) (fun s'' a' w' q1 q2 => ih _ a' w' (by simpa using hsz) hu' hcl' (.inr ⟨i + 1, s'', by omega, fun j hj => ?_, q2, q1⟩)) hk' hs'
      rw [listed_set hlt2]
      simp only [Bool.or_eq_true, beq_iff_eq]
      have := hiff j hj
      constructor
      · rintro (q | q)
        · have := this.1 q; omega
        · omega
      · intro q
        by_cases e : j = i
        · exact .inr e
        · exact .inl (this.2 (by omega))
def AnyG (M : Mod) (F : (Nat → Bool) → Hp) (L : List (Nat × Nat)) (i : Nat) (oc : OC) (ds : List D) (d : D) : Prop := ∀ E : Nat → Bool, E i = false → Lg L E → Rdy L i E → OcG M oc ds (F E) (F (fun j => E j || j == i)) d
def headG (M : Mod) (F : (Nat → Bool) → Hp) (L : List (Nat × Nat)) (i : Nat) (o : RO) (K : St → Prop) (s : St) : Prop :=
  match o.guard with
  | none => ∃ d, AnyG M F L i o.oc (o.args.map s.get) d ∧ K (s.put o.dst d)
  | some (g, want) =>
    match s.get g with
    | .bool b => (b = want → ∃ d, AnyG M F L i o.oc (o.args.map (s.setO g (.bool want)).get) d ∧ K ((s.setO g (.bool want)).put o.dst d)) ∧
        (b = (!want) → Still F i ∧ K ((s.setO g (.bool (!want))).put o.dst .skip))
    | .skip => Still F i ∧ K (s.put o.dst .skip)
    | _ => False
def opsG (M : Mod) (F : (Nat → Bool) → Hp) (L : List (Nat × Nat)) : Nat → List (RO × Bool) → (St → Prop) → St → Prop
  | j, [], K, s => K { s with hp := F (fun k => decide (k < j)) }
  | i, (o, _) :: r, K, s => headG M F L i o (opsG M F L (i + 1) r K) s
theorem headG_step {ops : Array Oper} {o : Oper} {x : RO} {K : St → Prop} {s : St} (h1 : resOp1 C ops o = some x) (hl : s.env.length = C.pers.length) {F : (Nat → Bool) → Hp} {L : List (Nat × Nat)} {i : Nat} (h : headG C.M F L i x K s) :
    ∃ d s1, K s1 ∧ s1.hp = s.hp ∧ s1.env.length = C.pers.length ∧ (∀ E : Nat → Bool, E i = false → Lg L E → Rdy L i E → StepG C ops (F E) (F (fun j => E j || j == i)) (s.slot C.pers) o d) ∧ s1.slot C.pers = updO (s.slot C.pers) o.dst d := by
  unfold resOp1 at h1
  cases hres : resolveOp C.P o.op with
  | none => simp [hres] at h1
  | some p =>
    obtain ⟨oc, ys⟩ := p
    cases ha : resOs C ys with
    | none => simp [hres, ha] at h1
    | some args =>
      cases hd : resDst C o.dst with
      | none => simp [hres, ha, hd] at h1
      | some dst =>
        cases hg : resGuard C ops o.guard with
        | none => simp [hres, ha, hd, hg] at h1
        | some guard =>
          simp [hres, ha, hd, hg] at h1; subst h1
          cases hog : o.guard with
          | none =>
            simp [hog, resGuard] at hg; subst hg
            simp only [headG] at h
            obtain ⟨d, h2, h3⟩ := h
            rw [map_evO ha] at h2
            exact ⟨d, _, h3, put_hp _ _ _, by rw [put_env_len]; exact hl, fun E hE hG hR => ⟨oc, ys, hres, ⟨_, ha⟩, ⟨_, hd⟩, .inl ⟨hog, h2 E hE hG hR⟩⟩, put_slot hd hl _⟩
          | some p =>
            obtain ⟨j, want⟩ := p
            simp only [hog, resGuard] at hg
            cases hj : (ops[j]?).bind (·.dst) with
            | none => simp [hj] at hg
            | some t =>
              simp only [hj] at hg
              cases hgo : resO C (.tmp t) with
              | none => simp [hgo] at hg
              | some g =>
                simp [hgo] at hg; subst hg
                have htn := (resO_tmp hgo).2
                simp only [headG] at h
                have hsl : s.slot C.pers t = s.get g := (get_slot hgo).symm
                cases hb : s.get g <;> simp only [hb] at h
                case bool b =>
                  by_cases e : b = want
                  · subst e
                    obtain ⟨d, h2, h3⟩ := h.1 rfl
                    rw [map_evO ha, setO_same hgo hl hb] at h2
                    refine ⟨d, _, h3, by rw [put_hp, setO_hp], by rw [put_env_len]; simpa [setO_len] using hl, fun E hE hG hR => ⟨oc, ys, hres, ⟨_, ha⟩, ⟨_, hd⟩, .inr ⟨j, b, t, hog, hj, htn, .inl ⟨by rw [hsl, hb], h2 E hE hG hR⟩⟩⟩, ?_⟩
                    rw [put_slot hd (by simpa [setO_len] using hl), setO_same hgo hl hb]
                  · have e' : b = (!want) := by cases b <;> cases want <;> simp_all
                    subst e'
                    refine ⟨.skip, _, (h.2 rfl).2, by rw [put_hp, setO_hp], by rw [put_env_len, setO_len]; exact hl, fun E hE _ _ => ⟨oc, ys, hres, ⟨_, ha⟩, ⟨_, hd⟩, .inr ⟨j, want, t, hog, hj, htn, .inr (.inl ⟨by rw [hsl, hb], rfl, (h.2 rfl).1 E hE⟩)⟩⟩, ?_⟩
                    rw [put_slot hd (by rw [setO_len]; exact hl), setO_same hgo hl hb]
                case skip =>
                  exact ⟨.skip, _, h.2, put_hp _ _ _, by rw [put_env_len]; exact hl, fun E hE _ _ => ⟨oc, ys, hres, ⟨_, ha⟩, ⟨_, hd⟩, .inr ⟨j, want, t, hog, hj, htn, .inr (.inr ⟨by rw [hsl, hb], rfl, h.1 E hE⟩)⟩⟩, put_slot hd hl _⟩
theorem opsG_trace {ops : Array Oper} {K : St → Prop} {F : (Nat → Bool) → Hp} {L : List (Nat × Nat)} : ∀ (len k : Nat) (ros : List RO) (qs : List (RO × Bool)) (s : St), resOps C ops (List.range' k len) = some ros → qs.map (·.1) = ros → s.env.length = C.pers.length → opsG C.M F L k qs K s →
    ∃ (ds : Nat → D) (σ : Nat → Nat → D) (s1 : St), K s1 ∧ s1.hp = F (fun j => decide (j < k + len)) ∧ s1.env.length = C.pers.length ∧ σ k = s.slot C.pers ∧ σ (k + len) = s1.slot C.pers ∧
      ∀ i, k ≤ i → i < k + len → ∃ o, ops[i]? = some o ∧ (∀ E : Nat → Bool, E i = false → Lg L E → Rdy L i E → StepG C ops (F E) (F (fun j => E j || j == i)) (σ i) o (ds i)) ∧ σ (i + 1) = updO (σ i) o.dst (ds i)
  | 0, k, ros, qs, s, hr, hqs, hl, h => by
    simp [resOps] at hr; subst hr
    have : qs = [] := by simpa using hqs
    subst this
    exact ⟨fun _ => .undef, fun _ => s.slot C.pers, _, h, rfl, hl, rfl, rfl, fun i h1 h2 => by omega⟩
  | len + 1, k, ros, qs, s, hr, hqs, hl, h => by
    rw [List.range'_succ] at hr
    obtain ⟨o, x, xs, ho, h1, h2, rfl⟩ := resOps_cons hr
    cases qs with
    | nil => simp at hqs
    | cons p qs =>
      obtain ⟨x', q⟩ := p
      simp only [List.map_cons, List.cons.injEq] at hqs
      obtain ⟨rfl, hqs⟩ := hqs
      simp only [opsG] at h
      obtain ⟨d, s1, k1, _, k3, k4, k5⟩ := headG_step h1 hl h
      obtain ⟨ds, σ, s2, g1, g2, g3, g4, g5, g6⟩ := opsG_trace len (k + 1) xs qs s1 h2 hqs k3 k1
      refine ⟨fun i => if i = k then d else ds i, fun i => if i = k then s.slot C.pers else σ i, s2, g1, ?_, g3, by simp, ?_, fun i h1 h2 => ?_⟩
      · rw [g2]; congr 1; funext j; congr 1; exact propext ⟨fun _ => by omega, fun _ => by omega⟩
      · have : k + (len + 1) ≠ k := by omega
        simp only [this, if_false]
        rw [← g5]; congr 1; omega
      · by_cases ek : i = k
        · subst ek
          refine ⟨o, ho, ?_, ?_⟩
          · simpa using k4
          · simp [g4, k5]
        · obtain ⟨o', q1, q2, q3⟩ := g6 i (by omega) (by omega)
          have e2 : i + 1 ≠ k := by omega
          exact ⟨o', q1, by simpa [ek] using q2, by simpa [ek, e2] using q3⟩
def depsB (qs : List (RO × Bool)) (L : List (Nat × Nat)) : Bool := L.all fun p => decide (p.1 < p.2) && match qs[p.1]?, qs[p.2]? with
  | some a, some b => depB a.1 b.1
  | _, _ => false
theorem depsB_spec {ops : Array Oper} {r : List RO} {L : List (Nat × Nat)} (hr : resOps C ops (List.range' 0 ops.size) = some r) (hrl : tailAt ops ≤ r.length) (h : depsB (flags ops r (tailAt ops)) L = true) :
    ∀ p ∈ L, p.1 < p.2 ∧ p.2 < tailAt ops ∧ ∃ oi oj t, ops[p.1]? = some oi ∧ ops[p.2]? = some oj ∧ oi.dst = some t ∧ t ∈ namesOf ops oj := by
  intro p hp
  have h := List.all_eq_true.1 h p hp
  simp only [Bool.and_eq_true, decide_eq_true_eq] at h
  obtain ⟨h1, h2⟩ := h
  have hf : (flags ops r (tailAt ops)).map (·.1) = r.take (tailAt ops) := flags_fst hrl
  have get : ∀ i a, (flags ops r (tailAt ops))[i]? = some a → i < tailAt ops ∧ ∃ o, ops[i]? = some o ∧ resOp1 C ops o = some a.1 := fun i a ha => by
    have e : ((flags ops r (tailAt ops)).map (·.1))[i]? = some a.1 := by rw [List.getElem?_map, ha]; rfl
    rw [hf, List.getElem?_take] at e
    split at e
    · rename_i hi
      refine ⟨hi, ?_⟩
      obtain ⟨o, x, q1, q2, q3⟩ := resOps_drop _ _ i r hr (by have := resOps_length _ _ hr; simp at this; omega)
      rw [Nat.zero_add] at q1
      have ex : r[i]? = some x := by
        have := List.getElem?_drop (xs := r) (i := i) (j := 0)
        rw [q3] at this; simpa using this.symm
      rw [ex] at e; cases e
      exact ⟨o, q1, q2⟩
    · cases e
  split at h2
  · rename_i a b ea eb
    obtain ⟨_, oi, f1, f2⟩ := get _ _ ea
    obtain ⟨g0, oj, f3, f4⟩ := get _ _ eb
    obtain ⟨t, f5, f6⟩ := depB_op f2 f4 h2
    exact ⟨h1, g0, oi, oj, t, f1, f3, f5, f6⟩
  · cases h2
theorem swp_regDG {Q : Ex → St → Prop} {s : St} {qs : List (RO × Bool)} {ros : List RO} (F : (Nat → Bool) → Hp) (L : List (Nat × Nat)) (hdep : depsB qs L = true) (h0 : F (fun _ => false) = s.hp) (h : opsG C.M F L 0 qs (fun s1 => opsWp C.M ros (fun s' => Q .normal s'.done) s1) s) : SWp C (.regD qs ros) Q s := by
  refine ⟨fun c hc w0 B hA a w hs => ?_⟩
  have hreg : ∀ id ops d, c = .region id ops d → _ := fun id ops d e => res_region (e ▸ hc)
  cases c <;> (try simp only [resCode] at hc) <;> (try (cases hc; done))
  case region id ops d =>
    rcases hreg _ _ _ rfl with ⟨r, h1, _⟩ | ⟨r, h1, rfl, hB1, hB2, hr⟩ | h1
    · cases h1
    · cases h1
      have hB := And.intro hB1 hB2
      · skip
        rw [List.range_eq_range'] at hr
        have hl : s.env.length = C.pers.length := by obtain ⟨_, _, _, _, _, q, _⟩ := hs; exact q
        have hrl : tailAt ops ≤ r.length := by rw [resOps_length _ _ hr]; simpa using tailAt_le ops
        obtain ⟨ds, σ, s1, k1, k2, k3, k4, k5, k6⟩ := opsG_trace (tailAt ops) 0 _ _ s (resOps_take _ _ 0 _ hr (tailAt_le ops)) (flags_fst hrl) hl h
        have hsig : ∀ i, i ≤ tailAt ops → σ i = sig ops (s.slot C.pers) ds (fun _ => true) i := by
          intro i
          induction i with
          | zero => intro _; exact k4
          | succ i ih =>
            intro hi
            obtain ⟨o, q1, _, q3⟩ := k6 i (Nat.zero_le _) (by omega)
            rw [q3, ih (by omega)]
            simp [sig, dstO, q1]
        refine fun ro => wpIn_region_any hB.2 (draw_soundG hA (s := s) (s1 := s1) (K := fun s' => Q .normal s'.done) (ds := ds) (F := F) (L := L) (m := tailAt ops) (ros := r) hB.1 (tailAt_le ops) hr (fun s a w hk hs => ⟨s.done, weak_done _ _ _ _ hs, hk⟩) hl k1 (by rw [k2, Nat.zero_add]) k3 (depsB_spec hr hrl hdep) (fun i hi => ?_) ?_ ops.size _ a _ (by simp) ?_ ?_ (.inl ⟨?_, ?_⟩))
        · obtain ⟨o, q1, q2, _⟩ := k6 i (Nat.zero_le _) (by omega)
          rw [hsig i (by omega)] at q2
          exact ⟨o, q1, q2⟩
        · rw [← hsig _ (Nat.le_refl _), ← k5, Nat.zero_add]
        · simp only [unl, Array.toList_replicate]
          exact Nat.le_trans (List.length_filter_le _ _) (by simp)
        · intro j oj hj hlj
          exfalso
          have : (Array.replicate ops.size false).getD j false = false := by
            simp only [Array.getD_eq_getD_getElem?, Array.getElem?_replicate]; split <;> rfl
          rw [this] at hlj; cases hlj
        · intro j hlj
          exfalso
          have : (Array.replicate ops.size false).getD j false = false := by
            simp only [Array.getD_eq_getD_getElem?, Array.getElem?_replicate]; split <;> rfl
          rw [this] at hlj; cases hlj
        · obtain ⟨G, g0, gb, g1, g2, g3, g4⟩ := hs
          have hrep : ∀ j, (Array.replicate ops.size false).getD j false = false := by
            intro j
            simp only [Array.getD_eq_getD_getElem?, Array.getElem?_replicate]; split <;> rfl
          have e1 : sig ops (s.slot C.pers) ds (fun j => (Array.replicate ops.size false).getD j false) (tailAt ops) = s.slot C.pers := by
            funext t
            exact sig_skip (ops := ops) (σ0 := s.slot C.pers) (ds := ds) (E := fun j => (Array.replicate ops.size false).getD j false) (t := t) (a := 0) (tailAt ops) (Nat.zero_le _) (fun j _ _ hE => by
              rw [hrep] at hE; cases hE)
          have e3 : (fun j => (Array.replicate ops.size false).getD j false) = fun _ => false := funext hrep
          rw [e1, e3, h0]
          obtain ⟨q1, q2⟩ := g0.drawn (w.drawn + 1)
          exact ⟨G, q1, gb, g1, g2, fun t => Rel.evo _ q2 (g4 t)⟩
    · cases h1
  all_goals exfalso; (repeat' split at hc) <;> simp_all
end
section
variable {M : Mod} {F : (Nat → Bool) → Hp} {L : List (Nat × Nat)} {i : Nat} {dst : Dst} {q : Bool} {r : List (RO × Bool)} {K : St → Prop} {s : St} {oc : OC} {args : List Opd}
theorem v_end {hp' : Hp} (hh : F (fun k => decide (k < i)) = hp') (h : K { s with hp := hp' }) : opsG M F L i [] K s := by subst hh; exact h
theorem v_op (d : D) (h1 : AnyG M F L i oc (args.map s.get) d) (h : opsG M F L (i + 1) r K (s.put dst d)) : opsG M F L i ((⟨dst, oc, args, none⟩, q) :: r) K s := ⟨d, h1, h⟩
theorem v_q {ds : List D} (d : D) (ha : args.map s.get = ds) (hF : Still F i) (ho : ∀ E : Nat → Bool, E i = false → OcWp M oc ds (F E) (fun d' hp' => d' = d ∧ hp' = F E)) (h : opsG M F L (i + 1) r K (s.put dst d)) : opsG M F L i ((⟨dst, oc, args, none⟩, q) :: r) K s :=
  v_op d (by rw [ha]; exact fun E hE hG hR => .inl (by rw [hF E hE]; exact ho E hE)) h
theorem v_c {ds : List D} {d : D} (ha : args.map s.get = ds) (h1 : ∀ E : Nat → Bool, E i = false → Lg L E → Rdy L i E → OcWp M oc ds (F E) (fun d' hp' => d' = d ∧ hp' = F (fun j => E j || j == i))) (h : opsG M F L (i + 1) r K (s.put dst d)) : opsG M F L i ((⟨dst, oc, args, none⟩, q) :: r) K s :=
  v_op d (by rw [ha]; exact fun E hE hG hR => .inl (h1 E hE hG hR)) h
end
end GoV
end
section
set_option linter.unusedSimpArgs false
set_option linter.unusedVariables false
namespace GoV
open Go
theorem Inv.grow {w0 g0 hp w g} (h : Inv w0 g0 hp w g) (os : Array Obj) : Inv w0 g0 hp (Go.Sort.grow w os) g ∧ Evo w g (Go.Sort.grow w os) g := by
  have hb : ∀ n, n < w.heap.size → (Go.Sort.grow w os).heap[n]? = w.heap[n]? := fun n hn => by
    show (w.heap ++ os)[n]? = w.heap[n]?
    rw [Array.getElem?_append_left hn]
  have he : Evo w g (Go.Sort.grow w os) g := ⟨fun b o' hi => ⟨hi, cell_of_heap (hb b (h.heap.imm b o' hi).1)⟩, fun _ _ h => h, fun _ T h => ⟨T, h, rfl, .inl rfl⟩⟩
  refine ⟨h.step (h.heap.other he rfl rfl (fun n hn => hb n (h.heap.own_lt n hn)) (by simp) fun b o ho => .inl ho) he ⟨rfl, rfl, rfl, by simp, fun b hb' _ => hb b hb'⟩ (fun n hn => .inl hn) (fun n hn => .inl hn) (fun b o ho => .inl ho), he⟩
theorem relL_row {α : Type} {w : World} {g : Gh} {f : α → D} {enc : α → Value} (h : ∀ x, Rel w g (f x) (enc x)) : ∀ l : List α, RelL w g (l.map f) (l.map enc)
  | [] => RelL.nil
  | x :: l => RelL.cons (h x) (relL_row h l)
theorem relL_row_inv {α : Type} {w : World} {g : Gh} {f : α → D} {enc : α → Value} (h : ∀ x y, Rel w g (f x) y → y = enc x) : ∀ (l : List α) (r : List D) (xs : List Value), RelL w g (l.map f ++ r) xs → ∃ ys, xs = l.map enc ++ ys ∧ RelL w g r ys
  | [], r, xs, hr => ⟨xs, rfl, hr⟩
  | x :: l, r, xs, hr => by
    obtain ⟨y, ys, rfl, h1, h2⟩ := hr.inv
    obtain ⟨zs, rfl, h3⟩ := relL_row_inv h l r ys h2
    exact ⟨zs, by rw [h x y h1]; rfl, h3⟩
open Go.Sort in
theorem eff_rowV {M : Mod} {f : FuncId} {α : Type} [Inhabited α] (hc : Callable M f) (enc : α → Value) (dat : α → D) (hd : ∀ w g x, Rel w g (dat x) (enc x)) (hi : ∀ w g x y, Rel w g (dat x) y → y = enc x) (h1 : ∀ x, oneC (enc x))
    (ss srt : List α) (rest : List D) (n cap : Nat) (hn : n = ss.length) (hs : srt.length = ss.length) (hcap : n + rest.length = cap)
    (dv : D) (rv : Nat → Nat → Value) (hv : ∀ (w : World) (g : Gh) (b o : Nat), g.r[0]? = some b → (0 < cap → o = 0) → Rel w g dv (rv b o))
    (h : ∀ w blk off, Holds enc w blk off ss.toArray → blk < w.heap.size → Calls M.P f #[.slice (some ⟨blk, off, none⟩) ss.length cap] w fun e w' => e = .returned (rv blk off) ∧ ∃ k os, w' = Go.Sort.grow (putRow enc (ahead w k) blk off srt.toArray) os) :
    Eff M f [.sl 0 1 0 n cap] ⟨[.cells (ss.map dat ++ rest)], []⟩ fun d hp => d = dv ∧ hp = ⟨[.cells (srt.map dat ++ rest)], []⟩ := by
  refine ⟨hc, fun w g xs hA hH hargs => ?_⟩
  obtain ⟨v, vs, rfl, g1, g2⟩ := hargs.inv
  have := g2.inv_nil
  subst this
  simp only [Rel] at g1
  obtain ⟨b, o, hb, rfl, ho⟩ := g1
  obtain ⟨ys, e, k1, k2, k3⟩ := hH.blk 0 _ b rfl hb
  obtain ⟨zs, rfl, k4⟩ := relL_row_inv (hi w g) ss rest ys k2
  have hlt : b < w.heap.size := hH.lt b (List.mem_of_getElem? hb)
  have hz : ss.length = 0 ∨ o = 0 := by
    rcases Nat.eq_zero_or_pos cap with q | q
    · left; omega
    · exact .inr (ho q)
  have hold : Holds enc w b o ss.toArray := fun j hj => by
    have hj' : j < ss.length := by simpa using hj
    have ho0 : o = 0 := by rcases hz with q | q <;> omega
    subst ho0
    refine ⟨?_, by simp [World.frozen?, k1]⟩
    rw [Nat.zero_add]
    simp only [World.cell?, k1]
    simp [hj', List.getElem?_append_left (show j < (ss.map enc).length by simpa using hj')]
  subst hn
  refine (h w b o hold hlt).mono fun e' w' hh => ?_
  obtain ⟨rfl, k, os, rfl⟩ := hh
  have hheap : (putRow enc (ahead w k) b o srt.toArray).heap[b]? = some (.cells (srt.map enc ++ zs).toArray e (0, 0)) := by
    have e1 : (putRow enc (ahead w k) b o srt.toArray).heap = w.heap.modify b (onCells (putCells enc o srt.toArray)) := rfl
    rw [e1, Array.getElem?_modify, if_pos rfl, k1]
    simp only [Option.map_some, onCells]
    congr 2
    unfold putCells
    apply Array.ext_getElem?
    intro i
    simp only [Array.getElem?_mapIdx, List.getElem?_toArray, List.size_toArray]
    rcases hz with q | q
    · have hs0 : srt = [] := List.eq_nil_of_length_eq_zero (by omega)
      have hs1 : ss = [] := List.eq_nil_of_length_eq_zero q
      subst hs0; subst hs1
      simp only [List.map_nil, List.nil_append]
      cases zs[i]? with
      | none => rfl
      | some y => simp only [Option.map_some]; rw [if_neg (by simp)]
    · subst q
      by_cases hi' : i < srt.length
      · rw [List.getElem?_append_left (by simp; omega), List.getElem?_append_left (by simpa using hi')]
        simp [hi', show i < ss.length by omega]
      · rw [List.getElem?_append_right (by simp; omega), List.getElem?_append_right (by simp; omega)]
        simp only [List.length_map, hs, Nat.zero_add, Nat.zero_le, true_and]
        have : ¬ i < ss.length := by omega
        simp [this]
  obtain ⟨u1, u2⟩ := (Inv.refl' hH).write (w' := putRow enc (ahead w k) b o srt.toArray) 0 b hb ⟨_, rfl, by simp⟩ (.cells (srt.map dat ++ rest))
    (fun w1 g1 he => by
      rw [hheap]
      refine ⟨_, e, rfl, ?_, ?_⟩
      · have := relL_row (hd w1 g1) srt
        exact this.append (RelL.evo _ he k4)
      · intro y hy
        rcases List.mem_append.1 hy with q | q
        · obtain ⟨x, _, rfl⟩ := List.mem_map.1 q
          exact h1 x
        · exact k3 y (List.mem_append.2 (.inr q)))
    (fun m hm => by
      show (w.heap.modify b (onCells (putCells enc o srt.toArray)))[m]? = _
      rw [Array.getElem?_modify, if_neg (Ne.symm hm)]) (by simp) rfl rfl rfl
  obtain ⟨v1, v2⟩ := u1.grow os
  exact ⟨_, _, _, _, rfl, ⟨rfl, rfl⟩, v1, hv _ _ _ _ hb ho⟩
open Go.Sort in
theorem eff_row {M : Mod} {f : FuncId} {α : Type} [Inhabited α] (hc : Callable M f) (enc : α → Value) (dat : α → D) (hd : ∀ w g x, Rel w g (dat x) (enc x)) (hi : ∀ w g x y, Rel w g (dat x) y → y = enc x) (h1 : ∀ x, oneC (enc x))
    (ss srt : List α) (rest : List D) (n cap : Nat) (hn : n = ss.length) (hs : srt.length = ss.length) (hcap : n + rest.length = cap)
    (h : ∀ w blk off, Holds enc w blk off ss.toArray → blk < w.heap.size → Calls M.P f #[.slice (some ⟨blk, off, none⟩) ss.length cap] w fun e w' => e = .returned (.tuple #[]) ∧ ∃ k os, w' = Go.Sort.grow (putRow enc (ahead w k) blk off srt.toArray) os) :
    Eff M f [.sl 0 1 0 n cap] ⟨[.cells (ss.map dat ++ rest)], []⟩ fun d hp => d = .tup [] ∧ hp = ⟨[.cells (srt.map dat ++ rest)], []⟩ :=
  eff_rowV hc enc dat hd hi h1 ss srt rest n cap hn hs hcap (.tup []) (fun _ _ => .tuple #[]) (fun _ _ _ _ _ _ => by simp [Rel, RelL]) h
open Go.Sort in
theorem eff_rowS {M : Mod} {f : FuncId} {α : Type} [Inhabited α] (hc : Callable M f) (enc : α → Value) (dat : α → D) (hd : ∀ w g x, Rel w g (dat x) (enc x)) (hi : ∀ w g x y, Rel w g (dat x) y → y = enc x) (h1 : ∀ x, oneC (enc x))
    (ss srt : List α) (rest : List D) (n cap m : Nat) (hn : n = ss.length) (hs : srt.length = ss.length) (hcap : n + rest.length = cap)
    (h : ∀ w blk off, Holds enc w blk off ss.toArray → blk < w.heap.size → Calls M.P f #[.slice (some ⟨blk, off, none⟩) ss.length cap] w fun e w' => e = .returned (.slice (some ⟨blk, off, none⟩) m cap) ∧ ∃ k os, w' = Go.Sort.grow (putRow enc (ahead w k) blk off srt.toArray) os) :
    Eff M f [.sl 0 1 0 n cap] ⟨[.cells (ss.map dat ++ rest)], []⟩ fun d hp => d = .sl 0 1 0 m cap ∧ hp = ⟨[.cells (srt.map dat ++ rest)], []⟩ :=
  eff_rowV hc enc dat hd hi h1 ss srt rest n cap hn hs hcap (.sl 0 1 0 m cap) (fun b o => .slice (some ⟨b, o, none⟩) m cap) (fun _ _ b o hb ho => by simp only [Rel]; exact ⟨b, o, hb, rfl, ho⟩) h
section
variable {P : Mod} {r : List RO} {rq : List (RO × Bool)} {K : St → Prop} {s : St} {dst : Dst}
end
end GoV
end
section
set_option linter.unusedSimpArgs false
set_option linter.unusedVariables false
set_option maxHeartbeats 1000000
namespace GoV
open Go
theorem eff_growG {M : Mod} {f : FuncId} {cap : World → Nat} {cells : World → Array Value} {ty : TypeId} {k : Nat} {n : Int} (hc : Callable M f) (hk : 0 < k) (hsz : ∀ w, (cells w).size = cap w * k) (ho : ∀ w, ∀ y ∈ (cells w).toList, oneC y)
    (h : ∀ w, Calls M.P f #[.slice none 0 0, .int .i64 n] w fun e w' => e = .returned (.slice (some ⟨w.heap.size, 0, none⟩) 0 (cap w)) ∧ w' = w.drew.alloc (.cells (cells w) ty)) :
    Eff M f [.lit (.slice none 0 0), .int .i64 n] ⟨[], []⟩ fun d hp => d = .gs 0 0 ∧ hp = ⟨[], [.chg k []]⟩ := by
  refine ⟨hc, fun w g xs hA hH hargs => ?_⟩
  obtain ⟨v, vs, rfl, g1, g2⟩ := hargs.inv
  obtain ⟨u, us, rfl, g3, g4⟩ := g2.inv
  have := g4.inv_nil
  subst this
  simp only [Rel] at g1 g3
  obtain ⟨rfl, _⟩ := g1
  subst g3
  refine (h w).mono fun e w' hh => ?_
  obtain ⟨rfl, rfl⟩ := hh
  obtain ⟨i1, e1⟩ := (Inv.refl' hH).drawn (w.drawn + 1)
  obtain ⟨i2, e2⟩ := i1.alloc (.cells (cells w) ty (0, 0))
  have hat := heap_alloc_at w.drew (.cells (cells w) ty (0, 0))
  obtain ⟨q3, q4⟩ := i2.tokChg (len := 0) (cs := []) hk hat (hsz w) (Nat.zero_le _) (ho w) (own_fresh i1) i1.keeps.size (I_fresh i1) (by simp) (by simpa using RelL.nil)
  have ht : g.tk = [] := List.eq_nil_of_length_eq_zero (by have := hH.lent; simpa using this.symm)
  refine ⟨_, _, _, _, rfl, ⟨rfl, rfl⟩, q3, ?_⟩
  simp only [Rel]
  have hg := tok_get g ⟨some w.heap.size, some ⟨w.heap.size, 0, none⟩, cap w, k, 0⟩
  rw [ht] at hg
  exact ⟨_, _, _, rfl, by simp, hg, Nat.zero_le _, fun _ => ⟨rfl, rfl, by simp⟩⟩
end GoV
end
section
set_option maxRecDepth 100000
namespace Go.Proofs.Ytofnggfpegcllaa
open Go GoV
noncomputable def M : Mod := { P := Try.prog, amb := fun _ _ => True, up := fun _ _ _ _ _ _ _ => trivial }
@[irreducible] def zl256 : List D := List.replicate 256 (.int .u8 0)
noncomputable def E61 (n m : Nat) : Cfg := ⟨M, [0, 1, 2, 3, 4, 5, 9, 24, 33, 39], 50, n, m, []⟩
noncomputable def C61 : Cfg := E61 0 0
@[reducible] noncomputable def r61_0 : List RO := [
  ⟨.var 0, .newb zl256, [], none⟩]
@[reducible] noncomputable def r61_1 : List RO := [
  ⟨.var 1, .newb zl256, [], none⟩]
@[reducible] noncomputable def r61_2 : List RO := [
  ⟨.var 4, .mv, [.con (.int .i64 0)], none⟩]
@[reducible] noncomputable def r61_3 : List RO := [
  ⟨.var 5, .bin .lss, [.var 4, .con (.int .i64 256)], none⟩]
@[reducible] noncomputable def r61_4 : List RO := [
  ⟨.loc 6, .mv, [.var 4], none⟩,
  ⟨.var 2, .mv, [.loc 6], none⟩]
@[reducible] noncomputable def r61_5 : List RO := [
  ⟨.loc 7, .mv, [.var 2], none⟩,
  ⟨.loc 8, .cvI .u8, [.loc 7], none⟩,
  ⟨.var 3, .mv, [.loc 8], none⟩]
@[reducible] noncomputable def r61_6 : List RO := [
  ⟨.loc 10, .mv, [.var 3], none⟩,
  ⟨.loc 11, .bin .leq, [(.con (.int .u8 97)), .loc 10], none⟩,
  ⟨.loc 12, .mv, [.loc 11], none⟩,
  ⟨.loc 13, .mv, [.var 3], (some (.loc 12, true))⟩,
  ⟨.loc 14, .bin .leq, [.loc 13, (.con (.int .u8 122))], (some (.loc 12, true))⟩,
  ⟨.loc 15, .pick, [.loc 12, .loc 14, .con (.bool false)], none⟩,
  ⟨.var 6, .mv, [.loc 15], none⟩]
@[reducible] noncomputable def r61_7 : List RO := [
  ⟨.loc 16, .mv, [.var 3], none⟩,
  ⟨.loc 17, .bin .leq, [(.con (.int .u8 65)), .loc 16], none⟩,
  ⟨.loc 18, .mv, [.loc 17], none⟩,
  ⟨.loc 19, .mv, [.var 3], (some (.loc 18, true))⟩,
  ⟨.loc 20, .bin .leq, [.loc 19, (.con (.int .u8 90))], (some (.loc 18, true))⟩,
  ⟨.loc 21, .pick, [.loc 18, .loc 20, .con (.bool false)], none⟩,
  ⟨.var 6, .mv, [.loc 21], none⟩]
@[reducible] noncomputable def r61_8 : List RO := [
  ⟨.loc 22, .mv, [.var 2], none⟩,
  ⟨.loc 23, .ixaA 256 1, [.var 1, .loc 22], none⟩,
  ⟨.none, .st 1, [.loc 23, (.con (.int .u8 3))], none⟩]
@[reducible] noncomputable def r61_9 : List RO := [
  ⟨.loc 25, .mv, [.var 3], none⟩,
  ⟨.loc 26, .bin .leq, [(.con (.int .u8 48)), .loc 25], none⟩,
  ⟨.loc 27, .mv, [.loc 26], none⟩,
  ⟨.loc 28, .mv, [.var 3], (some (.loc 27, true))⟩,
  ⟨.loc 29, .bin .leq, [.loc 28, (.con (.int .u8 57))], (some (.loc 27, true))⟩,
  ⟨.loc 30, .pick, [.loc 27, .loc 29, .con (.bool false)], none⟩,
  ⟨.var 7, .mv, [.loc 30], none⟩]
@[reducible] noncomputable def r61_10 : List RO := [
  ⟨.loc 31, .mv, [.var 2], none⟩,
  ⟨.loc 32, .ixaA 256 1, [.var 1, .loc 31], none⟩,
  ⟨.none, .st 1, [.loc 32, (.con (.int .u8 4))], none⟩]
@[reducible] noncomputable def r61_11 : List RO := [
  ⟨.loc 34, .mv, [.var 3], none⟩,
  ⟨.loc 35, .call, [(.con (.fn (.func 77) [] [])), (.con (.str [32, 9, 10])), .loc 34], none⟩,
  ⟨.loc 36, .bin .geq, [.loc 35, .con (.int .i64 0)], none⟩,
  ⟨.var 8, .mv, [.loc 36], none⟩]
@[reducible] noncomputable def r61_12 : List RO := [
  ⟨.loc 37, .mv, [.var 2], none⟩,
  ⟨.loc 38, .ixaA 256 1, [.var 1, .loc 37], none⟩,
  ⟨.none, .st 1, [.loc 38, (.con (.int .u8 1))], none⟩]
@[reducible] noncomputable def r61_13 : List RO := [
  ⟨.loc 40, .mv, [.var 3], none⟩,
  ⟨.loc 41, .call, [(.con (.fn (.func 77) [] [])), (.con (.str [59, 44, 46, 58, 40, 41, 123, 125, 91, 93, 61, 60, 62, 47, 43, 45, 42])), .loc 40], none⟩,
  ⟨.loc 42, .bin .geq, [.loc 41, .con (.int .i64 0)], none⟩,
  ⟨.var 9, .mv, [.loc 42], none⟩]
@[reducible] noncomputable def r61_14 : List RO := [
  ⟨.loc 43, .mv, [.var 2], none⟩,
  ⟨.loc 44, .ixaA 256 1, [.var 1, .loc 43], none⟩,
  ⟨.none, .st 1, [.loc 44, (.con (.int .u8 6))], none⟩]
@[reducible] noncomputable def r61_15 : List RO := [
  ⟨.loc 45, .bin .add, [.var 4, .con (.int .i64 1)], none⟩,
  ⟨.var 4, .mv, [.loc 45], none⟩]
@[reducible] noncomputable def r61_16 : List RO := [
  ⟨.loc 46, .ixaA 256 1, [.var 1, .con (.int .i64 35)], none⟩,
  ⟨.none, .st 1, [.loc 46, (.con (.int .u8 2))], none⟩,
  ⟨.loc 47, .ixaA 256 1, [.var 1, .con (.int .i64 95)], none⟩,
  ⟨.none, .st 1, [.loc 47, (.con (.int .u8 5))], none⟩,
  ⟨.loc 48, .ixaA 256 1, [.var 1, .con (.int .i64 34)], none⟩,
  ⟨.none, .st 1, [.loc 48, (.con (.int .u8 7))], none⟩]
@[reducible] noncomputable def r61_17 : List RO := [
  ⟨.loc 49, .ld true 256, [.var 1], none⟩,
  ⟨.none, .st 256, [.var 0, .loc 49], none⟩]
theorem P61 : C61.M = M := by unfold C61 E61; rfl
theorem i61 : St.init C61 [] ⟨[], []⟩ = ⟨[.undef, .undef, .undef, .undef, .undef, .undef, .undef, .undef, .undef, .undef], [], ⟨[], []⟩⟩ := by unfold C61 E61; rfl
noncomputable def c61 : RC := (.seq (.reg r61_0) (.seq (.reg r61_1) (.seq (.seq (.reg r61_2) (.block 0 (.loop (.seq (.reg r61_3) (.seq (.cond (.var 5) .skip (.exit 0)) (.seq (.block 1 (.seq (.reg r61_4) (.seq (.reg r61_5) (.block 2 (.seq (.seq (.reg r61_6) (.cond (.var 6) .skip (.reg r61_7))) (.cond (.var 6) (.reg r61_8) (.seq (.reg r61_9) (.cond (.var 7) (.reg r61_10) (.seq (.reg r61_11) (.cond (.var 8) (.reg r61_12) (.seq (.reg r61_13) (.cond (.var 9) (.reg r61_14) .skip)))))))))))) (.reg r61_15))))))) (.seq (.reg r61_16) (.seq (.reg r61_17) .ret)))))
noncomputable def q61 : List RR := [(.cell (.var 0) true 256)]
theorem z61 {n m : Nat} : resCode (E61 n m) (Try.f61.body.getD .skip) = some c61 := by kernel_rfl
theorem zr61 {n m : Nat} : resRs (E61 n m) Try.f61.results.toList = some q61 := by kernel_rfl
theorem ok61 {args : List D} {d : D} (hl : args.length = 0) (h : SWp C61 c61 (fun e s => (match e with | .exit _ => False | _ => True) ∧ rrsWp q61 s fun ds => D.closed (oneOrTup ds) = true ∧ (oneOrTup ds).er = d) (St.init C61 args ⟨[], []⟩)) : Pur M 61 args d :=
  pur_of_body (C := C61) (fn := Try.f61) Try.func61 (by kernel_rfl) (by kernel_rfl) (rc := c61) z61 (rs := q61) zr61 (by kernel_rfl) (by rw [hl]; rfl) (by rw [hl]; decide) rfl rfl h
noncomputable def E52 (n m : Nat) : Cfg := ⟨M, [0, 2, 3, 4, 5, 8, 9, 10, 30], 39, n, m, []⟩
noncomputable def C52 : Cfg := E52 0 0
@[reducible] noncomputable def r52_0 : List RO := [
  ⟨.var 1, .mv, [.con (.bool false)], none⟩]
@[reducible] noncomputable def r52_1 : List RO := [
  ⟨.loc 6, .call, [(.con (.fn (.func 61) [] []))], none⟩,
  ⟨.var 2, .newb zl256, [], none⟩,
  ⟨.none, .st 256, [.var 2, .loc 6], none⟩]
@[reducible] noncomputable def r52_2 : List RO := [
  ⟨.loc 7, .mv, [.var 0], none⟩,
  ⟨.var 5, .lenS, [.loc 7], none⟩,
  ⟨.var 6, .mv, [.con (.int .i64 0)], none⟩]
@[reducible] noncomputable def r52_3 : List RO := [
  ⟨.var 7, .bin .lss, [.var 6, .var 5], none⟩]
@[reducible] noncomputable def r52_4 : List RO := [
  ⟨.loc 11, .mv, [.var 6], none⟩,
  ⟨.var 3, .mv, [.loc 11], none⟩]
@[reducible] noncomputable def r52_5 : List RO := [
  ⟨.loc 12, .mv, [.var 0], none⟩,
  ⟨.loc 13, .mv, [.var 3], none⟩,
  ⟨.loc 14, .ixvS, [.loc 12, .loc 13], none⟩,
  ⟨.loc 15, .ixaA 256 1, [.var 2, .loc 14], none⟩,
  ⟨.loc 16, .ld false 1, [.loc 15], none⟩,
  ⟨.var 4, .mv, [.loc 16], none⟩]
@[reducible] noncomputable def r52_6 : List RO := [
  ⟨.loc 17, .mv, [.var 4], none⟩,
  ⟨.loc 18, .bin .neq, [.loc 17, (.con (.int .u8 3))], none⟩,
  ⟨.loc 19, .mv, [.loc 18], none⟩,
  ⟨.loc 20, .mv, [.var 3], (some (.loc 19, true))⟩,
  ⟨.loc 21, .bin .eql, [.loc 20, .con (.int .i64 0)], (some (.loc 19, true))⟩,
  ⟨.loc 22, .mv, [.loc 21], (some (.loc 19, true))⟩,
  ⟨.loc 23, .mv, [.var 4], (some (.loc 22, false))⟩,
  ⟨.loc 24, .bin .neq, [.loc 23, (.con (.int .u8 4))], (some (.loc 22, false))⟩,
  ⟨.loc 25, .mv, [.loc 24], (some (.loc 22, false))⟩,
  ⟨.loc 26, .mv, [.var 4], (some (.loc 25, true))⟩,
  ⟨.loc 27, .bin .neq, [.loc 26, (.con (.int .u8 5))], (some (.loc 25, true))⟩,
  ⟨.loc 28, .pick, [.loc 25, .loc 27, .con (.bool false)], (some (.loc 22, false))⟩,
  ⟨.loc 29, .pick, [.loc 22, .con (.bool true), .loc 28], (some (.loc 19, true))⟩,
  ⟨.var 8, .pick, [.loc 19, .loc 29, .con (.bool false)], none⟩]
@[reducible] noncomputable def r52_7 : List RO := [
  ⟨.var 1, .mv, [.con (.bool false)], none⟩]
@[reducible] noncomputable def r52_8 : List RO := [
  ⟨.loc 31, .bin .add, [.var 6, .con (.int .i64 1)], none⟩,
  ⟨.var 6, .mv, [.loc 31], none⟩]
@[reducible] noncomputable def r52_9 : List RO := [
  ⟨.loc 32, .mv, [.var 0], none⟩,
  ⟨.loc 33, .bin .neq, [.loc 32, (.con (.str []))], none⟩,
  ⟨.loc 34, .mv, [.loc 33], none⟩,
  ⟨.loc 35, .mv, [.var 0], (some (.loc 34, true))⟩,
  ⟨.loc 36, .lenS, [.loc 35], (some (.loc 34, true))⟩,
  ⟨.loc 37, .bin .leq, [.loc 36, .con (.int .i64 24)], (some (.loc 34, true))⟩,
  ⟨.loc 38, .pick, [.loc 34, .loc 37, .con (.bool false)], none⟩,
  ⟨.var 1, .mv, [.loc 38], none⟩]
theorem P52 : C52.M = M := by unfold C52 E52; rfl
theorem i52 {a0 : D} : St.init C52 [a0] ⟨[], []⟩ = ⟨[a0, .undef, .undef, .undef, .undef, .undef, .undef, .undef, .undef], [], ⟨[], []⟩⟩ := by unfold C52 E52; rfl
noncomputable def c52 : RC := (.seq (.reg r52_0) (.seq (.reg r52_1) (.seq (.seq (.reg r52_2) (.block 0 (.loop (.seq (.reg r52_3) (.seq (.cond (.var 7) .skip (.exit 0)) (.seq (.block 1 (.seq (.reg r52_4) (.seq (.reg r52_5) (.seq (.reg r52_6) (.cond (.var 8) (.seq (.reg r52_7) .ret) .skip))))) (.reg r52_8))))))) (.seq (.reg r52_9) .ret))))
noncomputable def q52 : List RR := [(.slot (.var 1))]
theorem z52 {n m : Nat} : resCode (E52 n m) (Try.f52.body.getD .skip) = some c52 := by kernel_rfl
theorem zr52 {n m : Nat} : resRs (E52 n m) Try.f52.results.toList = some q52 := by kernel_rfl
theorem ok52 {args : List D} {d : D} (hl : args.length = 1) (h : SWp C52 c52 (fun e s => (match e with | .exit _ => False | _ => True) ∧ rrsWp q52 s fun ds => D.closed (oneOrTup ds) = true ∧ (oneOrTup ds).er = d) (St.init C52 args ⟨[], []⟩)) : Pur M 52 args d :=
  pur_of_body (C := C52) (fn := Try.f52) Try.func52 (by kernel_rfl) (by kernel_rfl) (rc := c52) z52 (rs := q52) zr52 (by kernel_rfl) (by rw [hl]; rfl) (by rw [hl]; decide) rfl rfl h
noncomputable def E62 (n m : Nat) : Cfg := ⟨M, [0, 1, 4, 5, 7, 8, 9, 16], 19, n, m, []⟩
noncomputable def C62 : Cfg := E62 0 0
@[reducible] noncomputable def r62_0 : List RO := [
  ⟨.var 2, .mv, [.con (.int .i64 0)], none⟩]
@[reducible] noncomputable def r62_1 : List RO := [
  ⟨.loc 6, .mv, [.var 0], none⟩,
  ⟨.var 4, .lenL, [.loc 6], none⟩,
  ⟨.var 5, .mv, [.con (.int .i64 0)], none⟩]
@[reducible] noncomputable def r62_2 : List RO := [
  ⟨.var 6, .bin .lss, [.var 5, .var 4], none⟩]
@[reducible] noncomputable def r62_3 : List RO := [
  ⟨.loc 10, .mv, [.var 5], none⟩,
  ⟨.var 3, .mv, [.loc 10], none⟩]
@[reducible] noncomputable def r62_4 : List RO := [
  ⟨.loc 11, .mv, [.var 1], none⟩,
  ⟨.loc 12, .mv, [.var 0], none⟩,
  ⟨.loc 13, .mv, [.var 3], none⟩,
  ⟨.loc 14, .ixaS 1, [.loc 12, .loc 13], none⟩,
  ⟨.loc 15, .ld false 1, [.loc 14], none⟩,
  ⟨.var 7, .call, [.loc 11, .loc 15], none⟩]
@[reducible] noncomputable def r62_5 : List RO := [
  ⟨.loc 17, .mv, [.var 3], none⟩,
  ⟨.var 2, .mv, [.loc 17], none⟩]
@[reducible] noncomputable def r62_6 : List RO := [
  ⟨.loc 18, .bin .add, [.var 5, .con (.int .i64 1)], none⟩,
  ⟨.var 5, .mv, [.loc 18], none⟩]
@[reducible] noncomputable def r62_7 : List RO := [
  ⟨.var 2, .mv, [(.con (.int .i64 (-1)))], none⟩]
theorem P62 : C62.M = M := by unfold C62 E62; rfl
theorem i62 {a0 a1 : D} : St.init C62 [a0, a1] ⟨[], []⟩ = ⟨[a0, a1, .undef, .undef, .undef, .undef, .undef, .undef], [], ⟨[], []⟩⟩ := by unfold C62 E62; rfl
noncomputable def c62 : RC := (.seq (.reg r62_0) (.seq (.seq (.reg r62_1) (.block 0 (.loop (.seq (.reg r62_2) (.seq (.cond (.var 6) .skip (.exit 0)) (.seq (.block 1 (.seq (.reg r62_3) (.seq (.reg r62_4) (.cond (.var 7) (.seq (.reg r62_5) .ret) .skip)))) (.reg r62_6))))))) (.seq (.reg r62_7) .ret)))
noncomputable def q62 : List RR := [(.slot (.var 2))]
theorem z62 {n m : Nat} : resCode (E62 n m) (Try.f62.body.getD .skip) = some c62 := by kernel_rfl
theorem zr62 {n m : Nat} : resRs (E62 n m) Try.f62.results.toList = some q62 := by kernel_rfl
theorem ok62 {args : List D} {d : D} (hl : args.length = 2) (h : SWp C62 c62 (fun e s => (match e with | .exit _ => False | _ => True) ∧ rrsWp q62 s fun ds => D.closed (oneOrTup ds) = true ∧ (oneOrTup ds).er = d) (St.init C62 args ⟨[], []⟩)) : Pur M 62 args d :=
  pur_of_body (C := C62) (fn := Try.f62) Try.func62 (by kernel_rfl) (by kernel_rfl) (rc := c62) z62 (rs := q62) zr62 (by kernel_rfl) (by rw [hl]; rfl) (by rw [hl]; decide) rfl rfl h
noncomputable def E54 (n m : Nat) : Cfg := ⟨M, [0, 1, 4], 9, n, m, []⟩
noncomputable def C54 : Cfg := E54 0 0
@[reducible] noncomputable def r54_0 : List RO := [
  ⟨.var 2, .mv, [.con (.bool false)], none⟩]
@[reducible] noncomputable def r54_1 : List RO := [
  ⟨.loc 5, .mv, [.var 0], none⟩,
  ⟨.loc 6, .mv, [.var 1], none⟩,
  ⟨.loc 7, .call, [(.con (.fn (.func 62) [] [])), .loc 5, .loc 6], none⟩,
  ⟨.loc 8, .bin .geq, [.loc 7, .con (.int .i64 0)], none⟩,
  ⟨.var 2, .mv, [.loc 8], none⟩]
theorem P54 : C54.M = M := by unfold C54 E54; rfl
theorem i54 {a0 a1 : D} : St.init C54 [a0, a1] ⟨[], []⟩ = ⟨[a0, a1, .undef], [], ⟨[], []⟩⟩ := by unfold C54 E54; rfl
noncomputable def c54 : RC := (.seq (.reg r54_0) (.seq (.reg r54_1) .ret))
noncomputable def q54 : List RR := [(.slot (.var 2))]
theorem z54 {n m : Nat} : resCode (E54 n m) (Try.f54.body.getD .skip) = some c54 := by kernel_rfl
theorem zr54 {n m : Nat} : resRs (E54 n m) Try.f54.results.toList = some q54 := by kernel_rfl
theorem ok54 {args : List D} {d : D} (hl : args.length = 2) (h : SWp C54 c54 (fun e s => (match e with | .exit _ => False | _ => True) ∧ rrsWp q54 s fun ds => D.closed (oneOrTup ds) = true ∧ (oneOrTup ds).er = d) (St.init C54 args ⟨[], []⟩)) : Pur M 54 args d :=
  pur_of_body (C := C54) (fn := Try.f54) Try.func54 (by kernel_rfl) (by kernel_rfl) (rc := c54) z54 (rs := q54) zr54 (by kernel_rfl) (by rw [hl]; rfl) (by rw [hl]; decide) rfl rfl h
noncomputable def E55 (n m : Nat) : Cfg := ⟨M, [0, 2], 6, n, m, []⟩
noncomputable def C55 : Cfg := E55 0 0
@[reducible] noncomputable def r55_0 : List RO := [
  ⟨.var 1, .mv, [.con (.bool false)], none⟩]
@[reducible] noncomputable def r55_1 : List RO := [
  ⟨.loc 3, .mv, [.var 0], none⟩,
  ⟨.loc 4, .call, [(.con (.fn (.func 52) [] [])), .loc 3], none⟩,
  ⟨.loc 5, .un .not, [.loc 4], none⟩,
  ⟨.var 1, .mv, [.loc 5], none⟩]
theorem P55 : C55.M = M := by unfold C55 E55; rfl
theorem i55 {a0 : D} : St.init C55 [a0] ⟨[], []⟩ = ⟨[a0, .undef], [], ⟨[], []⟩⟩ := by unfold C55 E55; rfl
noncomputable def c55 : RC := (.seq (.reg r55_0) (.seq (.reg r55_1) .ret))
noncomputable def q55 : List RR := [(.slot (.var 1))]
theorem z55 {n m : Nat} : resCode (E55 n m) (Try.f55.body.getD .skip) = some c55 := by kernel_rfl
theorem zr55 {n m : Nat} : resRs (E55 n m) Try.f55.results.toList = some q55 := by kernel_rfl
theorem ok55 {args : List D} {d : D} (hl : args.length = 1) (h : SWp C55 c55 (fun e s => (match e with | .exit _ => False | _ => True) ∧ rrsWp q55 s fun ds => D.closed (oneOrTup ds) = true ∧ (oneOrTup ds).er = d) (St.init C55 args ⟨[], []⟩)) : Pur M 55 args d :=
  pur_of_body (C := C55) (fn := Try.f55) Try.func55 (by kernel_rfl) (by kernel_rfl) (rc := c55) z55 (rs := q55) zr55 (by kernel_rfl) (by rw [hl]; rfl) (by rw [hl]; decide) rfl rfl h
noncomputable def E53 (n m : Nat) : Cfg := ⟨M, [0, 2], 13, n, m, []⟩
@[reducible] noncomputable def r53_0 : List RO := [
  ⟨.var 1, (.newb [(.lit (.pointer none)), (.lit (.pointer none)), (.lit (.pointer none))]), [], none⟩]
@[reducible] noncomputable def r53_1 : List (RO × Bool) := [
  (⟨.loc 3, .mv, [.var 0], none⟩, true),
  (⟨.loc 4, .nck, [.loc 3], none⟩, true),
  (⟨.loc 5, .fld 0, [.loc 4], none⟩, true),
  (⟨.loc 6, .mv, [.var 0], none⟩, true),
  (⟨.loc 7, .nck, [.loc 6], none⟩, true),
  (⟨.loc 8, .fld 2, [.loc 7], none⟩, true),
  (⟨.loc 9, .mv, [.var 0], none⟩, true),
  (⟨.loc 10, .nck, [.loc 9], none⟩, true),
  (⟨.loc 11, .fld 4, [.loc 10], none⟩, true)]
@[reducible] noncomputable def r53_2 : List RO := [
  ⟨.loc 12, (.bld [(.lit (.pointer none)), (.lit (.pointer none)), (.lit (.pointer none))] [(0, 1), (1, 1), (2, 1)]), [.loc 5, .loc 8, .loc 11], none⟩,
  ⟨.none, .st 3, [.var 1, .loc 12], none⟩]
theorem pe53 {n m : Nat} : (E53 n m).M = M := by unfold E53; rfl
theorem ie53 {n m : Nat} {hp : Hp} {a0 : D} : St.init (E53 n m) [a0] hp = ⟨[a0, .undef], [], hp⟩ := by unfold E53; rfl
noncomputable def c53 : RC := (.seq (.reg r53_0) (.seq (.regD r53_1 r53_2) .ret))
noncomputable def q53 : List RR := [(.cell (.var 1) true 3)]
theorem z53 {n m : Nat} : resCode (E53 n m) (Try.f53.body.getD .skip) = some c53 := by kernel_rfl
theorem zr53 {n m : Nat} : resRs (E53 n m) Try.f53.results.toList = some q53 := by kernel_rfl
theorem oe53 {args : List D} {hp : Hp} {R : D → Hp → Prop} (n m : Nat) (hl : args.length = 1) (hn : n = hp.H.length) (hm : m = hp.tk.length) (h : SWp (E53 n m) c53 (fun e s => (match e with | .exit _ => False | _ => True) ∧ ∃ s1, Weak (E53 n m) s s1 ∧ rrsWp q53 s1 fun ds => R (oneOrTup ds) s1.hp) (St.init (E53 n m) args hp)) : Eff M 53 args hp R :=
  eff_of_body (C := E53 n m) (fn := Try.f53) Try.func53 (by kernel_rfl) (by kernel_rfl) (rc := c53) z53 (rs := q53) zr53 (by kernel_rfl) (by rw [hl]; rfl) (by rw [hl]; exact (by decide : 1 ≤ 13)) hn hm h
noncomputable def E51 (n m : Nat) : Cfg := ⟨M, [0, 2, 3, 10], 14, n, m, []⟩
noncomputable def C51 : Cfg := E51 0 0
@[reducible] noncomputable def r51_0 : List RO := [
  ⟨.var 1, .mv, [(.con (.str []))], none⟩]
@[reducible] noncomputable def r51_1 : List RO := [
  ⟨.loc 4, (.bld [(.str []), (.str []), (.str []), (.str []), (.str []), (.str []), (.str []), (.str [])] [(1, 1), (2, 1), (3, 1), (4, 1), (5, 1), (6, 1), (7, 1)]), [(.con (.str [109, 97, 107, 101])), (.con (.str [102, 105, 116])), (.con (.str [114, 101, 109, 111, 118, 101])), (.con (.str [114, 117, 110])), (.con (.str [111, 118, 101, 114, 104, 97, 117, 108])), (.con (.str [110, 111, 116, 101])), (.con (.str [115, 99, 114, 97, 112]))], none⟩,
  ⟨.var 2, (.newb [(.str []), (.str []), (.str []), (.str []), (.str []), (.str []), (.str []), (.str [])]), [], none⟩,
  ⟨.none, .st 8, [.var 2, .loc 4], none⟩]
@[reducible] noncomputable def r51_2 : List RO := [
  ⟨.loc 5, .mv, [.var 0], none⟩,
  ⟨.loc 6, .bin .lss, [.loc 5, .con (.int .i64 0)], none⟩,
  ⟨.loc 7, .mv, [.loc 6], none⟩,
  ⟨.loc 8, .mv, [.var 0], (some (.loc 7, false))⟩,
  ⟨.loc 9, .bin .geq, [.loc 8, .con (.int .i64 8)], (some (.loc 7, false))⟩,
  ⟨.var 3, .pick, [.loc 7, .con (.bool true), .loc 9], none⟩]
@[reducible] noncomputable def r51_3 : List RO := [
  ⟨.var 1, .mv, [(.con (.str []))], none⟩]
@[reducible] noncomputable def r51_4 : List RO := [
  ⟨.loc 11, .mv, [.var 0], none⟩,
  ⟨.loc 12, .ixaA 8 1, [.var 2, .loc 11], none⟩,
  ⟨.loc 13, .ld false 1, [.loc 12], none⟩,
  ⟨.var 1, .mv, [.loc 13], none⟩]
theorem P51 : C51.M = M := by unfold C51 E51; rfl
theorem i51 {a0 : D} : St.init C51 [a0] ⟨[], []⟩ = ⟨[a0, .undef, .undef, .undef], [], ⟨[], []⟩⟩ := by unfold C51 E51; rfl
noncomputable def c51 : RC := (.seq (.reg r51_0) (.seq (.reg r51_1) (.seq (.seq (.reg r51_2) (.cond (.var 3) (.seq (.reg r51_3) .ret) .skip)) (.seq (.reg r51_4) .ret))))
noncomputable def q51 : List RR := [(.slot (.var 1))]
theorem z51 {n m : Nat} : resCode (E51 n m) (Try.f51.body.getD .skip) = some c51 := by kernel_rfl
theorem zr51 {n m : Nat} : resRs (E51 n m) Try.f51.results.toList = some q51 := by kernel_rfl
theorem ok51 {args : List D} {d : D} (hl : args.length = 1) (h : SWp C51 c51 (fun e s => (match e with | .exit _ => False | _ => True) ∧ rrsWp q51 s fun ds => D.closed (oneOrTup ds) = true ∧ (oneOrTup ds).er = d) (St.init C51 args ⟨[], []⟩)) : Pur M 51 args d :=
  pur_of_body (C := C51) (fn := Try.f51) Try.func51 (by kernel_rfl) (by kernel_rfl) (rc := c51) z51 (rs := q51) zr51 (by kernel_rfl) (by rw [hl]; rfl) (by rw [hl]; decide) rfl rfl h
noncomputable def E49 (n m : Nat) : Cfg := ⟨M, [0, 1, 2], 37, n, m, []⟩
noncomputable def C49 : Cfg := E49 0 0
@[reducible] noncomputable def r49_0 : List RO := [
  ⟨.var 1, .box, [.var 0], none⟩,
  ⟨.var 2, .mv, [.con (.bool false)], none⟩]
@[reducible] noncomputable def r49_1 : List RO := [
  ⟨.loc 3, .fld 2, [.var 1], none⟩,
  ⟨.loc 4, .ld false 1, [.loc 3], none⟩,
  ⟨.loc 5, .lenS, [.loc 4], none⟩,
  ⟨.loc 6, .bin .leq, [.loc 5, .con (.int .i64 300)], none⟩,
  ⟨.loc 7, .mv, [.loc 6], none⟩,
  ⟨.loc 8, .fld 3, [.var 1], (some (.loc 7, true))⟩,
  ⟨.loc 9, .ld false 1, [.loc 8], (some (.loc 7, true))⟩,
  ⟨.loc 10, .lenS, [.loc 9], (some (.loc 7, true))⟩,
  ⟨.loc 11, .bin .leq, [.loc 10, .con (.int .i64 300)], (some (.loc 7, true))⟩,
  ⟨.loc 12, .pick, [.loc 7, .loc 11, .con (.bool false)], none⟩,
  ⟨.loc 13, .mv, [.loc 12], none⟩,
  ⟨.loc 14, .fld 4, [.var 1], (some (.loc 13, true))⟩,
  ⟨.loc 15, .ld false 1, [.loc 14], (some (.loc 13, true))⟩,
  ⟨.loc 16, .lenS, [.loc 15], (some (.loc 13, true))⟩,
  ⟨.loc 17, .bin .leq, [.loc 16, .con (.int .i64 300)], (some (.loc 13, true))⟩,
  ⟨.loc 18, .pick, [.loc 13, .loc 17, .con (.bool false)], none⟩,
  ⟨.loc 19, .mv, [.loc 18], none⟩,
  ⟨.loc 20, .fld 5, [.var 1], (some (.loc 19, true))⟩,
  ⟨.loc 21, .ld false 1, [.loc 20], (some (.loc 19, true))⟩,
  ⟨.loc 22, .lenS, [.loc 21], (some (.loc 19, true))⟩,
  ⟨.loc 23, .bin .leq, [.loc 22, .con (.int .i64 300)], (some (.loc 19, true))⟩,
  ⟨.loc 24, .pick, [.loc 19, .loc 23, .con (.bool false)], none⟩,
  ⟨.loc 25, .mv, [.loc 24], none⟩,
  ⟨.loc 26, .fld 6, [.var 1], (some (.loc 25, true))⟩,
  ⟨.loc 27, .ld false 1, [.loc 26], (some (.loc 25, true))⟩,
  ⟨.loc 28, .lenS, [.loc 27], (some (.loc 25, true))⟩,
  ⟨.loc 29, .bin .leq, [.loc 28, .con (.int .i64 300)], (some (.loc 25, true))⟩,
  ⟨.loc 30, .pick, [.loc 25, .loc 29, .con (.bool false)], none⟩,
  ⟨.loc 31, .mv, [.loc 30], none⟩,
  ⟨.loc 32, .fld 7, [.var 1], (some (.loc 31, true))⟩,
  ⟨.loc 33, .ld false 1, [.loc 32], (some (.loc 31, true))⟩,
  ⟨.loc 34, .lenS, [.loc 33], (some (.loc 31, true))⟩,
  ⟨.loc 35, .bin .leq, [.loc 34, .con (.int .i64 300)], (some (.loc 31, true))⟩,
  ⟨.loc 36, .pick, [.loc 31, .loc 35, .con (.bool false)], none⟩,
  ⟨.var 2, .mv, [.loc 36], none⟩]
theorem P49 : C49.M = M := by unfold C49 E49; rfl
theorem i49 {a0 : D} : St.init C49 [a0] ⟨[], []⟩ = ⟨[a0, .undef, .undef], [], ⟨[], []⟩⟩ := by unfold C49 E49; rfl
noncomputable def c49 : RC := (.seq (.reg r49_0) (.seq (.reg r49_1) .ret))
noncomputable def q49 : List RR := [(.slot (.var 2))]
theorem z49 {n m : Nat} : resCode (E49 n m) (Try.f49.body.getD .skip) = some c49 := by kernel_rfl
theorem zr49 {n m : Nat} : resRs (E49 n m) Try.f49.results.toList = some q49 := by kernel_rfl
theorem ok49 {args : List D} {d : D} (hl : args.length = 1) (h : SWp C49 c49 (fun e s => (match e with | .exit _ => False | _ => True) ∧ rrsWp q49 s fun ds => D.closed (oneOrTup ds) = true ∧ (oneOrTup ds).er = d) (St.init C49 args ⟨[], []⟩)) : Pur M 49 args d :=
  pur_of_body (C := C49) (fn := Try.f49) Try.func49 (by kernel_rfl) (by kernel_rfl) (rc := c49) z49 (rs := q49) zr49 (by kernel_rfl) (by rw [hl]; rfl) (by rw [hl]; decide) rfl rfl h
noncomputable def E45 (n m : Nat) : Cfg := ⟨M, [0, 1, 2, 3, 4, 6, 26, 33, 34, 40, 46, 54, 64, 70, 73, 74, 75, 99], 111, n, m, []⟩
noncomputable def C45 : Cfg := E45 0 0
@[reducible] noncomputable def r45_0 : List RO := [
  ⟨.var 1, .box, [.var 0], none⟩,
  ⟨.var 2, .mv, [.con (.bool false)], none⟩]
@[reducible] noncomputable def r45_1 : List RO := [
  ⟨.loc 7, .fld 0, [.var 1], none⟩,
  ⟨.loc 8, .ld false 1, [.loc 7], none⟩,
  ⟨.loc 9, .call, [(.con (.fn (.func 51) [] [])), .loc 8], none⟩,
  ⟨.loc 10, .bin .eql, [.loc 9, (.con (.str []))], none⟩,
  ⟨.loc 11, .mv, [.loc 10], none⟩,
  ⟨.loc 12, .fld 1, [.var 1], (some (.loc 11, false))⟩,
  ⟨.loc 13, .ld false 1, [.loc 12], (some (.loc 11, false))⟩,
  ⟨.loc 14, .bin .lss, [.loc 13, .con (.int .i64 0)], (some (.loc 11, false))⟩,
  ⟨.loc 15, .pick, [.loc 11, .con (.bool true), .loc 14], none⟩,
  ⟨.loc 16, .mv, [.loc 15], none⟩,
  ⟨.loc 17, .fld 1, [.var 1], (some (.loc 16, false))⟩,
  ⟨.loc 18, .ld false 1, [.loc 17], (some (.loc 16, false))⟩,
  ⟨.loc 19, .bin .gtr, [.loc 18, .con (.int .i64 40000)], (some (.loc 16, false))⟩,
  ⟨.loc 20, .pick, [.loc 16, .con (.bool true), .loc 19], none⟩,
  ⟨.loc 21, .mv, [.loc 20], none⟩,
  ⟨.loc 22, .fld 2, [.var 1], (some (.loc 21, false))⟩,
  ⟨.loc 23, .ld false 1, [.loc 22], (some (.loc 21, false))⟩,
  ⟨.loc 24, .call, [(.con (.fn (.func 52) [] [])), .loc 23], (some (.loc 21, false))⟩,
  ⟨.loc 25, .un .not, [.loc 24], (some (.loc 21, false))⟩,
  ⟨.var 6, .pick, [.loc 21, .con (.bool true), .loc 25], none⟩]
@[reducible] noncomputable def r45_2 : List RO := [
  ⟨.var 2, .mv, [.con (.bool false)], none⟩]
@[reducible] noncomputable def r45_3 : List RO := [
  ⟨.loc 27, .bsl 1, [], none⟩,
  ⟨.var 3, .mv, [.loc 27], none⟩]
@[reducible] noncomputable def r45_4 : List RO := [
  ⟨.loc 28, .ld true 14, [.var 1], none⟩,
  ⟨.var 4, (.newb [(.int .i64 0), (.int .i64 0), (.str []), (.str []), (.str []), (.str []), (.str []), (.str []), (.int .i64 0), (.int .i64 0), (.int .i64 0), (.int .i64 0), (.int .i64 0), (.int .i64 0)]), [], none⟩,
  ⟨.none, .st 14, [.var 4, .loc 28], none⟩]
@[reducible] noncomputable def r45_5 : List RO := [
  ⟨.loc 29, .fld 0, [.var 4], none⟩,
  ⟨.none, .st 1, [.loc 29, .con (.int .i64 0)], none⟩,
  ⟨.loc 30, .fld 1, [.var 4], none⟩,
  ⟨.none, .st 1, [.loc 30, .con (.int .i64 0)], none⟩,
  ⟨.loc 31, .fld 2, [.var 4], none⟩,
  ⟨.none, .st 1, [.loc 31, (.con (.str []))], none⟩]
@[reducible] noncomputable def r45_6 : List RO := [
  ⟨.loc 32, .fld 0, [.var 1], none⟩,
  ⟨.var 7, .ld false 1, [.loc 32], none⟩]
@[reducible] noncomputable def r45_7 : List RO := [
  ⟨.loc 35, .bin .eql, [.var 7, .con (.int .i64 1)], none⟩,
  ⟨.var 8, .mv, [.loc 35], none⟩]
@[reducible] noncomputable def r45_8 : List RO := [
  ⟨.loc 36, .fld 3, [.var 1], none⟩,
  ⟨.loc 37, .ld false 1, [.loc 36], none⟩,
  ⟨.loc 38, .bsl 1, [.loc 37], none⟩,
  ⟨.var 3, .mv, [.loc 38], none⟩,
  ⟨.loc 39, .fld 3, [.var 4], none⟩,
  ⟨.none, .st 1, [.loc 39, (.con (.str []))], none⟩]
@[reducible] noncomputable def r45_9 : List RO := [
  ⟨.loc 41, .bin .eql, [.var 7, .con (.int .i64 2)], none⟩,
  ⟨.var 9, .mv, [.loc 41], none⟩]
@[reducible] noncomputable def r45_10 : List RO := [
  ⟨.loc 42, .fld 4, [.var 1], none⟩,
  ⟨.loc 43, .ld false 1, [.loc 42], none⟩,
  ⟨.loc 44, .fld 2, [.var 1], none⟩,
  ⟨.loc 45, .ld false 1, [.loc 44], none⟩,
  ⟨.var 10, .bin .eql, [.loc 43, .loc 45], none⟩]
@[reducible] noncomputable def r45_11 : List RO := [
  ⟨.var 2, .mv, [.con (.bool false)], none⟩]
@[reducible] noncomputable def r45_12 : List RO := [
  ⟨.loc 47, .fld 4, [.var 1], none⟩,
  ⟨.loc 48, .ld false 1, [.loc 47], none⟩,
  ⟨.loc 49, .fld 5, [.var 1], none⟩,
  ⟨.loc 50, .ld false 1, [.loc 49], none⟩,
  ⟨.loc 51, .bsl 1, [.loc 48, .loc 50], none⟩,
  ⟨.var 3, .mv, [.loc 51], none⟩,
  ⟨.loc 52, .fld 4, [.var 4], none⟩,
  ⟨.none, .st 1, [.loc 52, (.con (.str []))], none⟩,
  ⟨.loc 53, .fld 5, [.var 4], none⟩,
  ⟨.none, .st 1, [.loc 53, (.con (.str []))], none⟩]
@[reducible] noncomputable def r45_13 : List RO := [
  ⟨.loc 55, .bin .eql, [.var 7, .con (.int .i64 6)], none⟩,
  ⟨.var 11, .mv, [.loc 55], none⟩]
@[reducible] noncomputable def r45_14 : List RO := [
  ⟨.loc 56, .fld 7, [.var 1], none⟩,
  ⟨.loc 57, .ld false 1, [.loc 56], none⟩,
  ⟨.loc 58, .bin .eql, [.loc 57, (.con (.str []))], none⟩,
  ⟨.loc 59, .mv, [.loc 58], none⟩,
  ⟨.loc 60, .fld 7, [.var 1], (some (.loc 59, false))⟩,
  ⟨.loc 61, .ld false 1, [.loc 60], (some (.loc 59, false))⟩,
  ⟨.loc 62, .lenS, [.loc 61], (some (.loc 59, false))⟩,
  ⟨.loc 63, .bin .gtr, [.loc 62, .con (.int .i64 200)], (some (.loc 59, false))⟩,
  ⟨.var 12, .pick, [.loc 59, .con (.bool true), .loc 63], none⟩]
@[reducible] noncomputable def r45_15 : List RO := [
  ⟨.var 2, .mv, [.con (.bool false)], none⟩]
@[reducible] noncomputable def r45_16 : List RO := [
  ⟨.loc 65, .fld 6, [.var 1], none⟩,
  ⟨.loc 66, .ld false 1, [.loc 65], none⟩,
  ⟨.loc 67, .bsl 1, [.loc 66], none⟩,
  ⟨.var 3, .mv, [.loc 67], none⟩,
  ⟨.loc 68, .fld 6, [.var 4], none⟩,
  ⟨.none, .st 1, [.loc 68, (.con (.str []))], none⟩,
  ⟨.loc 69, .fld 7, [.var 4], none⟩,
  ⟨.none, .st 1, [.loc 69, (.con (.str []))], none⟩]
@[reducible] noncomputable def r45_17 : List RO := [
  ⟨.loc 71, .bin .eql, [.var 7, .con (.int .i64 4)], none⟩,
  ⟨.var 13, .mv, [.loc 71], none⟩]
@[reducible] noncomputable def r45_18 : List RO := [
  ⟨.loc 72, .fld 8, [.var 1], none⟩,
  ⟨.var 14, .call, [(.con (.fn (.func 53) [] [])), .loc 72], none⟩,
  ⟨.var 15, .mv, [.con (.int .i64 0)], none⟩]
@[reducible] noncomputable def r45_19 : List RO := [
  ⟨.var 16, .bin .lss, [.var 15, .con (.int .i64 3)], none⟩]
@[reducible] noncomputable def r45_20 : List RO := [
  ⟨.loc 76, .ixvA false 3 1, [.var 14, .var 15], none⟩,
  ⟨.var 5, .mv, [.loc 76], none⟩]
@[reducible] noncomputable def r45_21 : List (RO × Bool) := [
  (⟨.loc 77, .mv, [.var 5], none⟩, true),
  (⟨.loc 78, .nck, [.loc 77], none⟩, true),
  (⟨.loc 79, .fld 0, [.loc 78], none⟩, true),
  (⟨.loc 80, .ld false 1, [.loc 79], none⟩, true),
  (⟨.loc 81, .bin .lss, [.loc 80, .con (.int .i64 0)], none⟩, true),
  (⟨.loc 82, .mv, [.loc 81], none⟩, true),
  (⟨.loc 83, .mv, [.var 5], (some (.loc 82, false))⟩, true),
  (⟨.loc 84, .nck, [.loc 83], (some (.loc 82, false))⟩, true),
  (⟨.loc 85, .fld 0, [.loc 84], (some (.loc 82, false))⟩, true),
  (⟨.loc 86, .ld false 1, [.loc 85], (some (.loc 82, false))⟩, true),
  (⟨.loc 87, .mv, [.var 5], (some (.loc 82, false))⟩, true),
  (⟨.loc 88, .nck, [.loc 87], (some (.loc 82, false))⟩, true),
  (⟨.loc 89, .fld 1, [.loc 88], (some (.loc 82, false))⟩, true),
  (⟨.loc 90, .ld false 1, [.loc 89], (some (.loc 82, false))⟩, true)]
@[reducible] noncomputable def r45_22 : List RO := [
  ⟨.loc 91, .bin .gtr, [.loc 86, .loc 90], (some (.loc 82, false))⟩,
  ⟨.loc 92, .pick, [.loc 82, .con (.bool true), .loc 91], none⟩,
  ⟨.loc 93, .mv, [.loc 92], none⟩,
  ⟨.loc 94, .mv, [.var 5], (some (.loc 93, false))⟩,
  ⟨.loc 95, .nck, [.loc 94], (some (.loc 93, false))⟩,
  ⟨.loc 96, .fld 1, [.loc 95], (some (.loc 93, false))⟩,
  ⟨.loc 97, .ld false 1, [.loc 96], (some (.loc 93, false))⟩,
  ⟨.loc 98, .bin .gtr, [.loc 97, .con (.int .i64 1000000)], (some (.loc 93, false))⟩,
  ⟨.var 17, .pick, [.loc 93, .con (.bool true), .loc 98], none⟩]
@[reducible] noncomputable def r45_23 : List RO := [
  ⟨.var 2, .mv, [.con (.bool false)], none⟩]
@[reducible] noncomputable def r45_24 : List RO := [
  ⟨.loc 100, .bin .add, [.var 15, .con (.int .i64 1)], none⟩,
  ⟨.var 15, .mv, [.loc 100], none⟩]
@[reducible] noncomputable def r45_25 : List RO := [
  ⟨.loc 101, (.bld [(.int .i64 0), (.int .i64 0), (.int .i64 0), (.int .i64 0), (.int .i64 0), (.int .i64 0)] []), [], none⟩,
  ⟨.loc 102, .fld 8, [.var 4], none⟩,
  ⟨.none, .st 6, [.loc 102, .loc 101], none⟩]
@[reducible] noncomputable def r45_26 : List RO := [
  ⟨.loc 103, .ld true 14, [.var 4], none⟩,
  ⟨.loc 104, (.bld [(.int .i64 0), (.int .i64 0), (.str []), (.str []), (.str []), (.str []), (.str []), (.str []), (.int .i64 0), (.int .i64 0), (.int .i64 0), (.int .i64 0), (.int .i64 0), (.int .i64 0)] []), [], none⟩,
  ⟨.loc 105, (.eqA false [.int, .int, .str, .str, .str, .str, .str, .str, .int, .int, .int, .int, .int, .int]), [.loc 103, .loc 104], none⟩,
  ⟨.loc 106, .mv, [.loc 105], none⟩,
  ⟨.loc 107, .mv, [.var 3], (some (.loc 106, true))⟩,
  ⟨.loc 108, .call, [(.con (.fn (.func 54) [] [])), .loc 107, (.con (.fn (.func 55) [] []))], (some (.loc 106, true))⟩,
  ⟨.loc 109, .un .not, [.loc 108], (some (.loc 106, true))⟩,
  ⟨.loc 110, .pick, [.loc 106, .loc 109, .con (.bool false)], none⟩,
  ⟨.var 2, .mv, [.loc 110], none⟩]
theorem P45 : C45.M = M := by unfold C45 E45; rfl
theorem i45 {a0 : D} : St.init C45 [a0] ⟨[], []⟩ = ⟨[a0, .undef, .undef, .undef, .undef, .undef, .undef, .undef, .undef, .undef, .undef, .undef, .undef, .undef, .undef, .undef, .undef, .undef], [], ⟨[], []⟩⟩ := by unfold C45 E45; rfl
noncomputable def c45 : RC := (.seq (.reg r45_0) (.seq (.seq (.reg r45_1) (.cond (.var 6) (.seq (.reg r45_2) .ret) .skip)) (.seq (.reg r45_3) (.seq (.reg r45_4) (.seq (.reg r45_5) (.seq (.seq (.reg r45_6) (.block 0 (.seq (.reg r45_7) (.cond (.var 8) (.reg r45_8) (.seq (.reg r45_9) (.cond (.var 9) (.seq (.seq (.reg r45_10) (.cond (.var 10) (.seq (.reg r45_11) .ret) .skip)) (.reg r45_12)) (.seq (.reg r45_13) (.cond (.var 11) (.seq (.seq (.reg r45_14) (.cond (.var 12) (.seq (.reg r45_15) .ret) .skip)) (.reg r45_16)) (.seq (.reg r45_17) (.cond (.var 13) (.seq (.seq (.reg r45_18) (.block 1 (.loop (.seq (.reg r45_19) (.seq (.cond (.var 16) .skip (.exit 1)) (.seq (.block 2 (.seq (.reg r45_20) (.seq (.regD r45_21 r45_22) (.cond (.var 17) (.seq (.reg r45_23) .ret) .skip)))) (.reg r45_24))))))) (.reg r45_25)) .skip)))))))))) (.seq (.reg r45_26) .ret)))))))
noncomputable def q45 : List RR := [(.slot (.var 2))]
theorem z45 {n m : Nat} : resCode (E45 n m) (Try.f45.body.getD .skip) = some c45 := by kernel_rfl
theorem zr45 {n m : Nat} : resRs (E45 n m) Try.f45.results.toList = some q45 := by kernel_rfl
theorem ok45 {args : List D} {d : D} (hl : args.length = 1) (h : SWp C45 c45 (fun e s => (match e with | .exit _ => False | _ => True) ∧ rrsWp q45 s fun ds => D.closed (oneOrTup ds) = true ∧ (oneOrTup ds).er = d) (St.init C45 args ⟨[], []⟩)) : Pur M 45 args d :=
  pur_of_body (C := C45) (fn := Try.f45) Try.func45 (by kernel_rfl) (by kernel_rfl) (rc := c45) z45 (rs := q45) zr45 (by kernel_rfl) (by rw [hl]; rfl) (by rw [hl]; decide) rfl rfl h
noncomputable def E37 (n m : Nat) : Cfg := ⟨M, [0, 1, 2, 3, 7], 25, n, m, []⟩
noncomputable def C37 : Cfg := E37 0 0
@[reducible] noncomputable def r37_0 : List RO := [
  ⟨.var 1, .box, [.var 0], none⟩,
  ⟨.var 2, .mv, [(.con (.lit (.slice none 0 0)))], none⟩]
@[reducible] noncomputable def r37_1 : List RO := [
  ⟨.loc 4, .ld true 14, [.var 1], none⟩,
  ⟨.loc 5, .call, [(.con (.fn (.func 45) [] [])), .loc 4], none⟩,
  ⟨.loc 6, .un .not, [.loc 5], none⟩,
  ⟨.var 3, .mv, [.loc 6], none⟩]
@[reducible] noncomputable def r37_2 : List RO := [
  ⟨.var 2, .mv, [(.con (.lit (.slice none 0 0)))], none⟩]
@[reducible] noncomputable def r37_3 : List RO := [
  ⟨.loc 8, .fld 0, [.var 1], none⟩,
  ⟨.loc 9, .ld false 1, [.loc 8], none⟩,
  ⟨.loc 10, .bin .eql, [.loc 9, .con (.int .i64 2)], none⟩,
  ⟨.var 4, .mv, [.loc 10], none⟩]
@[reducible] noncomputable def r37_4 : List RO := [
  ⟨.loc 11, .fld 2, [.var 1], none⟩,
  ⟨.loc 12, .ld false 1, [.loc 11], none⟩,
  ⟨.loc 13, .fld 4, [.var 1], none⟩,
  ⟨.loc 14, .ld false 1, [.loc 13], none⟩,
  ⟨.loc 15, .minI, [.loc 12, .loc 14], none⟩,
  ⟨.loc 16, .fld 2, [.var 1], none⟩,
  ⟨.loc 17, .ld false 1, [.loc 16], none⟩,
  ⟨.loc 18, .fld 4, [.var 1], none⟩,
  ⟨.loc 19, .ld false 1, [.loc 18], none⟩,
  ⟨.loc 20, .maxI, [.loc 17, .loc 19], none⟩,
  ⟨.loc 21, .bsl 1, [.loc 15, .loc 20], none⟩,
  ⟨.var 2, .mv, [.loc 21], none⟩]
@[reducible] noncomputable def r37_5 : List RO := [
  ⟨.loc 22, .fld 2, [.var 1], none⟩,
  ⟨.loc 23, .ld false 1, [.loc 22], none⟩,
  ⟨.loc 24, .bsl 1, [.loc 23], none⟩,
  ⟨.var 2, .mv, [.loc 24], none⟩]
theorem P37 : C37.M = M := by unfold C37 E37; rfl
theorem i37 {a0 : D} : St.init C37 [a0] ⟨[], []⟩ = ⟨[a0, .undef, .undef, .undef, .undef], [], ⟨[], []⟩⟩ := by unfold C37 E37; rfl
noncomputable def c37 : RC := (.seq (.reg r37_0) (.seq (.block 0 (.seq (.reg r37_1) (.cond (.var 3) (.seq (.reg r37_2) .ret) (.seq (.reg r37_3) (.cond (.var 4) (.seq (.reg r37_4) .ret) .skip))))) (.seq (.reg r37_5) .ret)))
noncomputable def q37 : List RR := [(.slot (.var 2))]
theorem z37 {n m : Nat} : resCode (E37 n m) (Try.f37.body.getD .skip) = some c37 := by kernel_rfl
theorem zr37 {n m : Nat} : resRs (E37 n m) Try.f37.results.toList = some q37 := by kernel_rfl
theorem ok37 {args : List D} {d : D} (hl : args.length = 1) (h : SWp C37 c37 (fun e s => (match e with | .exit _ => False | _ => True) ∧ rrsWp q37 s fun ds => D.closed (oneOrTup ds) = true ∧ (oneOrTup ds).er = d) (St.init C37 args ⟨[], []⟩)) : Pur M 37 args d :=
  pur_of_body (C := C37) (fn := Try.f37) Try.func37 (by kernel_rfl) (by kernel_rfl) (rc := c37) z37 (rs := q37) zr37 (by kernel_rfl) (by rw [hl]; rfl) (by rw [hl]; decide) rfl rfl h
end Go.Proofs.Ytofnggfpegcllaa
end
section
set_option maxRecDepth 100000
namespace Go.Proofs.Ytofnggfpegcllaa
open Go GoV
noncomputable def E32 (n m : Nat) : Cfg := ⟨M, [0, 2, 4], 8, n, m, []⟩
noncomputable def C32 : Cfg := E32 0 0
@[reducible] noncomputable def r32_0 : List RO := [
  ⟨.var 1, .mv, [(.con (.lit (.slice none 0 0)))], none⟩]
@[reducible] noncomputable def r32_1 : List RO := [
  ⟨.loc 3, .mv, [.var 0], none⟩,
  ⟨.var 2, .eqN false, [.loc 3, (.con (.lit (.slice none 0 0)))], none⟩]
@[reducible] noncomputable def r32_2 : List RO := [
  ⟨.var 1, .mv, [(.con (.lit (.slice none 0 0)))], none⟩]
@[reducible] noncomputable def r32_3 : List RO := [
  ⟨.loc 5, .bsl 2, [], none⟩,
  ⟨.loc 6, .mv, [.var 0], none⟩,
  ⟨.loc 7, .app 2 32 40, [.loc 5, .loc 6], none⟩,
  ⟨.var 1, .mv, [.loc 7], none⟩]
theorem P32 : C32.M = M := by unfold C32 E32; rfl
theorem pe32 {n m : Nat} : (E32 n m).M = M := by unfold E32; rfl
theorem i32 {a0 : D} : St.init C32 [a0] ⟨[], []⟩ = ⟨[a0, .undef, .undef], [], ⟨[], []⟩⟩ := by unfold C32 E32; rfl
theorem ie32 {n m : Nat} {hp : Hp} {a0 : D} : St.init (E32 n m) [a0] hp = ⟨[a0, .undef, .undef], [], hp⟩ := by unfold E32; rfl
noncomputable def c32 : RC := (.seq (.reg r32_0) (.seq (.seq (.reg r32_1) (.cond (.var 2) (.seq (.reg r32_2) .ret) .skip)) (.seq (.reg r32_3) .ret)))
noncomputable def q32 : List RR := [(.slot (.var 1))]
theorem z32 {n m : Nat} : resCode (E32 n m) (Try.f32.body.getD .skip) = some c32 := by kernel_rfl
theorem zr32 {n m : Nat} : resRs (E32 n m) Try.f32.results.toList = some q32 := by kernel_rfl
theorem oe32 {args : List D} {hp : Hp} {R : D → Hp → Prop} (n m : Nat) (hl : args.length = 1) (hn : n = hp.H.length) (hm : m = hp.tk.length) (h : SWp (E32 n m) c32 (fun e s => (match e with | .exit _ => False | _ => True) ∧ ∃ s1, Weak (E32 n m) s s1 ∧ rrsWp q32 s1 fun ds => R (oneOrTup ds) s1.hp) (St.init (E32 n m) args hp)) : Eff M 32 args hp R :=
  eff_of_body (C := E32 n m) (fn := Try.f32) Try.func32 (by kernel_rfl) (by kernel_rfl) (rc := c32) z32 (rs := q32) zr32 (by kernel_rfl) (by rw [hl]; rfl) (by rw [hl]; exact (by decide : 1 ≤ 8)) hn hm h
theorem ow32 {args : List D} {d : D} (hl : args.length = 1) (h : SWp C32 c32 (fun e s => (match e with | .exit _ => False | _ => True) ∧ ∃ s1, Weak C32 s s1 ∧ rrsWp q32 s1 fun ds => D.closed (oneOrTup ds) = true ∧ (oneOrTup ds).er = d) (St.init C32 args ⟨[], []⟩)) : Pur M 32 args d :=
  pur_of_bodyW (C := C32) (fn := Try.f32) Try.func32 (by kernel_rfl) (by kernel_rfl) (rc := c32) z32 (rs := q32) zr32 (by kernel_rfl) (by rw [hl]; rfl) (by rw [hl]; decide) rfl rfl h
noncomputable def E33 (n m : Nat) : Cfg := ⟨M, [0, 1, 2], 6, n, m, []⟩
noncomputable def C33 : Cfg := E33 0 0
@[reducible] noncomputable def r33_0 : List RO := [
  ⟨.var 1, .box, [.var 0], none⟩,
  ⟨.var 2, .mv, [.con (.bool false)], none⟩]
@[reducible] noncomputable def r33_1 : List RO := [
  ⟨.loc 3, .ld true 2, [.var 1], none⟩,
  ⟨.loc 4, .call, [(.con (.fn (.func 34) [] [])), .loc 3], none⟩,
  ⟨.loc 5, .bin .lss, [.loc 4, .con (.int .i64 2)], none⟩,
  ⟨.var 2, .mv, [.loc 5], none⟩]
theorem P33 : C33.M = M := by unfold C33 E33; rfl
theorem i33 {a0 : D} : St.init C33 [a0] ⟨[], []⟩ = ⟨[a0, .undef, .undef], [], ⟨[], []⟩⟩ := by unfold C33 E33; rfl
noncomputable def c33 : RC := (.seq (.reg r33_0) (.seq (.reg r33_1) .ret))
noncomputable def q33 : List RR := [(.slot (.var 2))]
theorem z33 {n m : Nat} : resCode (E33 n m) (Try.f33.body.getD .skip) = some c33 := by kernel_rfl
theorem zr33 {n m : Nat} : resRs (E33 n m) Try.f33.results.toList = some q33 := by kernel_rfl
theorem ok33 {args : List D} {d : D} (hl : args.length = 1) (h : SWp C33 c33 (fun e s => (match e with | .exit _ => False | _ => True) ∧ rrsWp q33 s fun ds => D.closed (oneOrTup ds) = true ∧ (oneOrTup ds).er = d) (St.init C33 args ⟨[], []⟩)) : Pur M 33 args d :=
  pur_of_body (C := C33) (fn := Try.f33) Try.func33 (by kernel_rfl) (by kernel_rfl) (rc := c33) z33 (rs := q33) zr33 (by kernel_rfl) (by rw [hl]; rfl) (by rw [hl]; decide) rfl rfl h
noncomputable def E34 (n m : Nat) : Cfg := ⟨M, [0, 1, 2, 3, 7], 17, n, m, []⟩
noncomputable def C34 : Cfg := E34 0 0
@[reducible] noncomputable def r34_0 : List RO := [
  ⟨.var 1, .box, [.var 0], none⟩,
  ⟨.var 2, .mv, [.con (.int .i64 0)], none⟩]
@[reducible] noncomputable def r34_1 : List RO := [
  ⟨.loc 4, .ld true 2, [.var 1], none⟩,
  ⟨.loc 5, .call, [(.con (.fn (.func 36) [] [])), .loc 4], none⟩,
  ⟨.loc 6, .un .not, [.loc 5], none⟩,
  ⟨.var 3, .mv, [.loc 6], none⟩]
@[reducible] noncomputable def r34_2 : List RO := [
  ⟨.var 2, .mv, [.con (.int .i64 0)], none⟩]
@[reducible] noncomputable def r34_3 : List RO := [
  ⟨.loc 8, .fld 1, [.var 1], none⟩,
  ⟨.loc 9, .ld false 1, [.loc 8], none⟩,
  ⟨.var 4, .mv, [.loc 9], none⟩]
@[reducible] noncomputable def r34_4 : List RO := [
  ⟨.loc 10, .fld 0, [.var 1], none⟩,
  ⟨.loc 11, .ld false 1, [.loc 10], none⟩,
  ⟨.loc 12, .lenL, [.loc 11], none⟩,
  ⟨.loc 13, .bin .add, [.loc 12, .con (.int .i64 1)], none⟩,
  ⟨.var 2, .mv, [.loc 13], none⟩]
@[reducible] noncomputable def r34_5 : List RO := [
  ⟨.loc 14, .fld 0, [.var 1], none⟩,
  ⟨.loc 15, .ld false 1, [.loc 14], none⟩,
  ⟨.loc 16, .lenL, [.loc 15], none⟩,
  ⟨.var 2, .mv, [.loc 16], none⟩]
theorem P34 : C34.M = M := by unfold C34 E34; rfl
theorem i34 {a0 : D} : St.init C34 [a0] ⟨[], []⟩ = ⟨[a0, .undef, .undef, .undef, .undef], [], ⟨[], []⟩⟩ := by unfold C34 E34; rfl
noncomputable def c34 : RC := (.seq (.reg r34_0) (.seq (.block 0 (.seq (.reg r34_1) (.cond (.var 3) (.seq (.reg r34_2) .ret) (.seq (.reg r34_3) (.cond (.var 4) (.seq (.reg r34_4) .ret) .skip))))) (.seq (.reg r34_5) .ret)))
noncomputable def q34 : List RR := [(.slot (.var 2))]
theorem z34 {n m : Nat} : resCode (E34 n m) (Try.f34.body.getD .skip) = some c34 := by kernel_rfl
theorem zr34 {n m : Nat} : resRs (E34 n m) Try.f34.results.toList = some q34 := by kernel_rfl
theorem ok34 {args : List D} {d : D} (hl : args.length = 1) (h : SWp C34 c34 (fun e s => (match e with | .exit _ => False | _ => True) ∧ rrsWp q34 s fun ds => D.closed (oneOrTup ds) = true ∧ (oneOrTup ds).er = d) (St.init C34 args ⟨[], []⟩)) : Pur M 34 args d :=
  pur_of_body (C := C34) (fn := Try.f34) Try.func34 (by kernel_rfl) (by kernel_rfl) (rc := c34) z34 (rs := q34) zr34 (by kernel_rfl) (by rw [hl]; rfl) (by rw [hl]; decide) rfl rfl h
noncomputable def E36 (n m : Nat) : Cfg := ⟨M, [0, 1, 2, 3, 5, 15, 18, 19, 20, 21, 31], 35, n, m, []⟩
noncomputable def C36 : Cfg := E36 0 0
@[reducible] noncomputable def r36_0 : List RO := [
  ⟨.var 1, .box, [.var 0], none⟩,
  ⟨.var 2, .mv, [.con (.bool false)], none⟩]
@[reducible] noncomputable def r36_1 : List RO := [
  ⟨.loc 6, .fld 0, [.var 1], none⟩,
  ⟨.loc 7, .ld false 1, [.loc 6], none⟩,
  ⟨.loc 8, .lenL, [.loc 7], none⟩,
  ⟨.loc 9, .bin .eql, [.loc 8, .con (.int .i64 0)], none⟩,
  ⟨.loc 10, .mv, [.loc 9], none⟩,
  ⟨.loc 11, .fld 0, [.var 1], (some (.loc 10, false))⟩,
  ⟨.loc 12, .ld false 1, [.loc 11], (some (.loc 10, false))⟩,
  ⟨.loc 13, .lenL, [.loc 12], (some (.loc 10, false))⟩,
  ⟨.loc 14, .bin .gtr, [.loc 13, .con (.int .i64 4)], (some (.loc 10, false))⟩,
  ⟨.var 5, .pick, [.loc 10, .con (.bool true), .loc 14], none⟩]
@[reducible] noncomputable def r36_2 : List RO := [
  ⟨.var 2, .mv, [.con (.bool false)], none⟩]
@[reducible] noncomputable def r36_3 : List RO := [
  ⟨.loc 16, .newM, [], none⟩,
  ⟨.var 3, .mv, [.loc 16], none⟩]
@[reducible] noncomputable def r36_4 : List RO := [
  ⟨.loc 17, .fld 0, [.var 1], none⟩,
  ⟨.var 6, .ld false 1, [.loc 17], none⟩,
  ⟨.var 7, .lenL, [.var 6], none⟩,
  ⟨.var 8, .mv, [.con (.int .i64 0)], none⟩]
@[reducible] noncomputable def r36_5 : List RO := [
  ⟨.var 9, .bin .lss, [.var 8, .var 7], none⟩]
@[reducible] noncomputable def r36_6 : List RO := [
  ⟨.loc 22, .ixaS 14, [.var 6, .var 8], none⟩,
  ⟨.loc 23, .ld true 14, [.loc 22], none⟩,
  ⟨.var 4, (.newb [(.int .i64 0), (.int .i64 0), (.str []), (.str []), (.str []), (.str []), (.str []), (.str []), (.int .i64 0), (.int .i64 0), (.int .i64 0), (.int .i64 0), (.int .i64 0), (.int .i64 0)]), [], none⟩,
  ⟨.none, .st 14, [.var 4, .loc 23], none⟩]
@[reducible] noncomputable def r36_7 : List RO := [
  ⟨.loc 24, .mv, [.var 3], none⟩,
  ⟨.loc 25, .ld true 14, [.var 4], none⟩,
  ⟨.loc 26, (.lkp (.st [.int, .int, .str, .str, .str, .str, .str, .str, .int, .int, .int, .int, .int, .int]) false (.bool false)), [.loc 24, .loc 25], none⟩,
  ⟨.loc 27, .mv, [.loc 26], none⟩,
  ⟨.loc 28, .ld true 14, [.var 4], (some (.loc 27, false))⟩,
  ⟨.loc 29, .call, [(.con (.fn (.func 45) [] [])), .loc 28], (some (.loc 27, false))⟩,
  ⟨.loc 30, .un .not, [.loc 29], (some (.loc 27, false))⟩,
  ⟨.var 10, .pick, [.loc 27, .con (.bool true), .loc 30], none⟩]
@[reducible] noncomputable def r36_8 : List RO := [
  ⟨.var 2, .mv, [.con (.bool false)], none⟩]
@[reducible] noncomputable def r36_9 : List RO := [
  ⟨.loc 32, .mv, [.var 3], none⟩,
  ⟨.loc 33, .ld true 14, [.var 4], none⟩,
  ⟨.none, (.mpu (.st [.int, .int, .str, .str, .str, .str, .str, .str, .int, .int, .int, .int, .int, .int])), [.loc 32, .loc 33, .con (.bool true)], none⟩]
@[reducible] noncomputable def r36_10 : List RO := [
  ⟨.loc 34, .bin .add, [.var 8, .con (.int .i64 1)], none⟩,
  ⟨.var 8, .mv, [.loc 34], none⟩]
@[reducible] noncomputable def r36_11 : List RO := [
  ⟨.var 2, .mv, [.con (.bool true)], none⟩]
theorem P36 : C36.M = M := by unfold C36 E36; rfl
theorem i36 {a0 : D} : St.init C36 [a0] ⟨[], []⟩ = ⟨[a0, .undef, .undef, .undef, .undef, .undef, .undef, .undef, .undef, .undef, .undef], [], ⟨[], []⟩⟩ := by unfold C36 E36; rfl
noncomputable def c36 : RC := (.seq (.reg r36_0) (.seq (.seq (.reg r36_1) (.cond (.var 5) (.seq (.reg r36_2) .ret) .skip)) (.seq (.reg r36_3) (.seq (.seq (.reg r36_4) (.block 0 (.loop (.seq (.reg r36_5) (.seq (.cond (.var 9) .skip (.exit 0)) (.seq (.block 1 (.seq (.reg r36_6) (.seq (.seq (.reg r36_7) (.cond (.var 10) (.seq (.reg r36_8) .ret) .skip)) (.reg r36_9)))) (.reg r36_10))))))) (.seq (.reg r36_11) .ret)))))
noncomputable def q36 : List RR := [(.slot (.var 2))]
theorem z36 {n m : Nat} : resCode (E36 n m) (Try.f36.body.getD .skip) = some c36 := by kernel_rfl
theorem zr36 {n m : Nat} : resRs (E36 n m) Try.f36.results.toList = some q36 := by kernel_rfl
theorem ok36 {args : List D} {d : D} (hl : args.length = 1) (h : SWp C36 c36 (fun e s => (match e with | .exit _ => False | _ => True) ∧ rrsWp q36 s fun ds => D.closed (oneOrTup ds) = true ∧ (oneOrTup ds).er = d) (St.init C36 args ⟨[], []⟩)) : Pur M 36 args d :=
  pur_of_body (C := C36) (fn := Try.f36) Try.func36 (by kernel_rfl) (by kernel_rfl) (rc := c36) z36 (rs := q36) zr36 (by kernel_rfl) (by rw [hl]; rfl) (by rw [hl]; decide) rfl rfl h
noncomputable def E39 (n m : Nat) : Cfg := ⟨M, [0, 1, 4, 5, 14, 22], 27, n, m, []⟩
noncomputable def C39 : Cfg := E39 0 0
@[reducible] noncomputable def r39_0 : List RO := [
  ⟨.var 2, .mv, [.con (.bool false)], none⟩]
@[reducible] noncomputable def r39_1 : List RO := [
  ⟨.var 3, .mv, [.con (.int .i64 0)], none⟩]
@[reducible] noncomputable def r39_2 : List RO := [
  ⟨.loc 6, .mv, [.var 3], none⟩,
  ⟨.loc 7, .mv, [.var 0], none⟩,
  ⟨.loc 8, .lenL, [.loc 7], none⟩,
  ⟨.loc 9, .bin .lss, [.loc 6, .loc 8], none⟩,
  ⟨.loc 10, .mv, [.loc 9], none⟩,
  ⟨.loc 11, .mv, [.var 3], (some (.loc 10, true))⟩,
  ⟨.loc 12, .mv, [.var 1], (some (.loc 10, true))⟩,
  ⟨.loc 13, .bin .leq, [.loc 11, .loc 12], (some (.loc 10, true))⟩,
  ⟨.var 4, .pick, [.loc 10, .loc 13, .con (.bool false)], none⟩]
@[reducible] noncomputable def r39_3 : List RO := [
  ⟨.loc 17, .mv, [.var 0], none⟩,
  ⟨.loc 18, .mv, [.var 3], none⟩,
  ⟨.loc 19, .ixaS 14, [.loc 17, .loc 18], none⟩,
  ⟨.loc 20, .ld true 14, [.loc 19], none⟩,
  ⟨.loc 21, .call, [(.con (.fn (.func 49) [] [])), .loc 20], none⟩,
  ⟨.var 5, .un .not, [.loc 21], none⟩]
@[reducible] noncomputable def r39_4 : List RO := [
  ⟨.var 2, .mv, [.con (.bool false)], none⟩]
@[reducible] noncomputable def r39_5 : List RO := [
  ⟨.loc 15, .mv, [.var 3], none⟩,
  ⟨.loc 16, .bin .add, [.loc 15, .con (.int .i64 1)], none⟩,
  ⟨.var 3, .mv, [.loc 16], none⟩]
@[reducible] noncomputable def r39_6 : List RO := [
  ⟨.loc 23, .mv, [.var 0], none⟩,
  ⟨.loc 24, .lenL, [.loc 23], none⟩,
  ⟨.loc 25, .mv, [.var 1], none⟩,
  ⟨.loc 26, .bin .leq, [.loc 24, .loc 25], none⟩,
  ⟨.var 2, .mv, [.loc 26], none⟩]
theorem P39 : C39.M = M := by unfold C39 E39; rfl
theorem i39 {a0 a1 : D} : St.init C39 [a0, a1] ⟨[], []⟩ = ⟨[a0, a1, .undef, .undef, .undef, .undef], [], ⟨[], []⟩⟩ := by unfold C39 E39; rfl
noncomputable def c39 : RC := (.seq (.reg r39_0) (.seq (.seq (.reg r39_1) (.block 0 (.loop (.seq (.seq (.reg r39_2) (.cond (.var 4) .skip (.exit 0))) (.seq (.block 1 (.seq (.reg r39_3) (.cond (.var 5) (.seq (.reg r39_4) .ret) .skip))) (.reg r39_5)))))) (.seq (.reg r39_6) .ret)))
noncomputable def q39 : List RR := [(.slot (.var 2))]
theorem z39 {n m : Nat} : resCode (E39 n m) (Try.f39.body.getD .skip) = some c39 := by kernel_rfl
theorem zr39 {n m : Nat} : resRs (E39 n m) Try.f39.results.toList = some q39 := by kernel_rfl
theorem ok39 {args : List D} {d : D} (hl : args.length = 2) (h : SWp C39 c39 (fun e s => (match e with | .exit _ => False | _ => True) ∧ rrsWp q39 s fun ds => D.closed (oneOrTup ds) = true ∧ (oneOrTup ds).er = d) (St.init C39 args ⟨[], []⟩)) : Pur M 39 args d :=
  pur_of_body (C := C39) (fn := Try.f39) Try.func39 (by kernel_rfl) (by kernel_rfl) (rc := c39) z39 (rs := q39) zr39 (by kernel_rfl) (by rw [hl]; rfl) (by rw [hl]; decide) rfl rfl h
noncomputable def E25 (n m : Nat) : Cfg := ⟨M, [0, 1, 4, 5, 15, 24], 29, n, m, []⟩
noncomputable def C25 : Cfg := E25 0 0
@[reducible] noncomputable def r25_0 : List RO := [
  ⟨.var 2, .mv, [.con (.bool false)], none⟩]
@[reducible] noncomputable def r25_1 : List RO := [
  ⟨.var 3, .mv, [.con (.int .i64 0)], none⟩]
@[reducible] noncomputable def r25_2 : List RO := [
  ⟨.loc 6, .mv, [.var 3], none⟩,
  ⟨.loc 7, .mv, [.var 0], none⟩,
  ⟨.loc 8, .lenL, [.loc 7], none⟩,
  ⟨.loc 9, .bin .lss, [.loc 6, .loc 8], none⟩,
  ⟨.loc 10, .mv, [.loc 9], none⟩,
  ⟨.loc 11, .mv, [.var 0], (some (.loc 10, true))⟩,
  ⟨.loc 12, .lenL, [.loc 11], (some (.loc 10, true))⟩,
  ⟨.loc 13, .mv, [.var 1], (some (.loc 10, true))⟩,
  ⟨.loc 14, .bin .leq, [.loc 12, .loc 13], (some (.loc 10, true))⟩,
  ⟨.var 4, .pick, [.loc 10, .loc 14, .con (.bool false)], none⟩]
@[reducible] noncomputable def r25_3 : List RO := [
  ⟨.loc 18, .mv, [.var 0], none⟩,
  ⟨.loc 19, .mv, [.var 3], none⟩,
  ⟨.loc 20, .ixaS 2, [.loc 18, .loc 19], none⟩,
  ⟨.loc 21, .fld 0, [.loc 20], none⟩,
  ⟨.loc 22, .ld false 1, [.loc 21], none⟩,
  ⟨.loc 23, .call, [(.con (.fn (.func 39) [] [])), .loc 22, .con (.int .i64 6)], none⟩,
  ⟨.var 5, .un .not, [.loc 23], none⟩]
@[reducible] noncomputable def r25_4 : List RO := [
  ⟨.var 2, .mv, [.con (.bool false)], none⟩]
@[reducible] noncomputable def r25_5 : List RO := [
  ⟨.loc 16, .mv, [.var 3], none⟩,
  ⟨.loc 17, .bin .add, [.loc 16, .con (.int .i64 1)], none⟩,
  ⟨.var 3, .mv, [.loc 17], none⟩]
@[reducible] noncomputable def r25_6 : List RO := [
  ⟨.loc 25, .mv, [.var 0], none⟩,
  ⟨.loc 26, .lenL, [.loc 25], none⟩,
  ⟨.loc 27, .mv, [.var 1], none⟩,
  ⟨.loc 28, .bin .leq, [.loc 26, .loc 27], none⟩,
  ⟨.var 2, .mv, [.loc 28], none⟩]
theorem P25 : C25.M = M := by unfold C25 E25; rfl
theorem i25 {a0 a1 : D} : St.init C25 [a0, a1] ⟨[], []⟩ = ⟨[a0, a1, .undef, .undef, .undef, .undef], [], ⟨[], []⟩⟩ := by unfold C25 E25; rfl
noncomputable def c25 : RC := (.seq (.reg r25_0) (.seq (.seq (.reg r25_1) (.block 0 (.loop (.seq (.seq (.reg r25_2) (.cond (.var 4) .skip (.exit 0))) (.seq (.block 1 (.seq (.reg r25_3) (.cond (.var 5) (.seq (.reg r25_4) .ret) .skip))) (.reg r25_5)))))) (.seq (.reg r25_6) .ret)))
noncomputable def q25 : List RR := [(.slot (.var 2))]
theorem z25 {n m : Nat} : resCode (E25 n m) (Try.f25.body.getD .skip) = some c25 := by kernel_rfl
theorem zr25 {n m : Nat} : resRs (E25 n m) Try.f25.results.toList = some q25 := by kernel_rfl
theorem ok25 {args : List D} {d : D} (hl : args.length = 2) (h : SWp C25 c25 (fun e s => (match e with | .exit _ => False | _ => True) ∧ rrsWp q25 s fun ds => D.closed (oneOrTup ds) = true ∧ (oneOrTup ds).er = d) (St.init C25 args ⟨[], []⟩)) : Pur M 25 args d :=
  pur_of_body (C := C25) (fn := Try.f25) Try.func25 (by kernel_rfl) (by kernel_rfl) (rc := c25) z25 (rs := q25) zr25 (by kernel_rfl) (by rw [hl]; rfl) (by rw [hl]; decide) rfl rfl h
noncomputable def E24 (n m : Nat) : Cfg := ⟨M, [0, 2], 7, n, m, []⟩
noncomputable def C24 : Cfg := E24 0 0
@[reducible] noncomputable def r24_0 : List RO := [
  ⟨.var 1, (.newb [(.lit (.slice none 0 0)), (.bool false)]), [], none⟩]
@[reducible] noncomputable def r24_1 : List RO := [
  ⟨.loc 3, .mv, [.var 0], none⟩,
  ⟨.loc 4, (.bld [(.int .i64 0), (.int .i64 0), (.str []), (.str []), (.str []), (.str []), (.str []), (.str []), (.int .i64 0), (.int .i64 0), (.int .i64 0), (.int .i64 0), (.int .i64 0), (.int .i64 0)] [(0, 1), (2, 1), (3, 1)]), [.con (.int .i64 1), .loc 3, (.con (.str [107]))], none⟩,
  ⟨.loc 5, .bsl 14, [.loc 4], none⟩,
  ⟨.loc 6, (.bld [(.lit (.slice none 0 0)), (.bool false)] [(0, 1)]), [.loc 5], none⟩,
  ⟨.none, .st 2, [.var 1, .loc 6], none⟩]
theorem P24 : C24.M = M := by unfold C24 E24; rfl
theorem i24 {a0 : D} : St.init C24 [a0] ⟨[], []⟩ = ⟨[a0, .undef], [], ⟨[], []⟩⟩ := by unfold C24 E24; rfl
noncomputable def c24 : RC := (.seq (.reg r24_0) (.seq (.reg r24_1) .ret))
noncomputable def q24 : List RR := [(.cell (.var 1) true 2)]
theorem z24 {n m : Nat} : resCode (E24 n m) (Try.f24.body.getD .skip) = some c24 := by kernel_rfl
theorem zr24 {n m : Nat} : resRs (E24 n m) Try.f24.results.toList = some q24 := by kernel_rfl
theorem ok24 {args : List D} {d : D} (hl : args.length = 1) (h : SWp C24 c24 (fun e s => (match e with | .exit _ => False | _ => True) ∧ rrsWp q24 s fun ds => D.closed (oneOrTup ds) = true ∧ (oneOrTup ds).er = d) (St.init C24 args ⟨[], []⟩)) : Pur M 24 args d :=
  pur_of_body (C := C24) (fn := Try.f24) Try.func24 (by kernel_rfl) (by kernel_rfl) (rc := c24) z24 (rs := q24) zr24 (by kernel_rfl) (by rw [hl]; rfl) (by rw [hl]; decide) rfl rfl h
noncomputable def E22 (n m : Nat) : Cfg := ⟨M, [0, 1, 4, 5, 9, 17], 18, n, m, []⟩
noncomputable def C22 : Cfg := E22 0 0
@[reducible] noncomputable def r22_0 : List RO := [
  ⟨.var 2, .mv, [.con (.bool false)], none⟩]
@[reducible] noncomputable def r22_1 : List RO := [
  ⟨.var 3, .mv, [.con (.int .i64 0)], none⟩]
@[reducible] noncomputable def r22_2 : List RO := [
  ⟨.loc 6, .mv, [.var 3], none⟩,
  ⟨.loc 7, .mv, [.var 0], none⟩,
  ⟨.loc 8, .lenL, [.loc 7], none⟩,
  ⟨.var 4, .bin .lss, [.loc 6, .loc 8], none⟩]
@[reducible] noncomputable def r22_3 : List RO := [
  ⟨.loc 12, .mv, [.var 0], none⟩,
  ⟨.loc 13, .mv, [.var 3], none⟩,
  ⟨.loc 14, .ixaS 1, [.loc 12, .loc 13], none⟩,
  ⟨.loc 15, .ld false 1, [.loc 14], none⟩,
  ⟨.loc 16, .mv, [.var 1], none⟩,
  ⟨.var 5, .bin .eql, [.loc 15, .loc 16], none⟩]
@[reducible] noncomputable def r22_4 : List RO := [
  ⟨.var 2, .mv, [.con (.bool true)], none⟩]
@[reducible] noncomputable def r22_5 : List RO := [
  ⟨.loc 10, .mv, [.var 3], none⟩,
  ⟨.loc 11, .bin .add, [.loc 10, .con (.int .i64 1)], none⟩,
  ⟨.var 3, .mv, [.loc 11], none⟩]
@[reducible] noncomputable def r22_6 : List RO := [
  ⟨.var 2, .mv, [.con (.bool false)], none⟩]
theorem P22 : C22.M = M := by unfold C22 E22; rfl
theorem i22 {a0 a1 : D} : St.init C22 [a0, a1] ⟨[], []⟩ = ⟨[a0, a1, .undef, .undef, .undef, .undef], [], ⟨[], []⟩⟩ := by unfold C22 E22; rfl
noncomputable def c22 : RC := (.seq (.reg r22_0) (.seq (.seq (.reg r22_1) (.block 0 (.loop (.seq (.seq (.reg r22_2) (.cond (.var 4) .skip (.exit 0))) (.seq (.block 1 (.seq (.reg r22_3) (.cond (.var 5) (.seq (.reg r22_4) .ret) .skip))) (.reg r22_5)))))) (.seq (.reg r22_6) .ret)))
noncomputable def q22 : List RR := [(.slot (.var 2))]
theorem z22 {n m : Nat} : resCode (E22 n m) (Try.f22.body.getD .skip) = some c22 := by kernel_rfl
theorem zr22 {n m : Nat} : resRs (E22 n m) Try.f22.results.toList = some q22 := by kernel_rfl
theorem ok22 {args : List D} {d : D} (hl : args.length = 2) (h : SWp C22 c22 (fun e s => (match e with | .exit _ => False | _ => True) ∧ rrsWp q22 s fun ds => D.closed (oneOrTup ds) = true ∧ (oneOrTup ds).er = d) (St.init C22 args ⟨[], []⟩)) : Pur M 22 args d :=
  pur_of_body (C := C22) (fn := Try.f22) Try.func22 (by kernel_rfl) (by kernel_rfl) (rc := c22) z22 (rs := q22) zr22 (by kernel_rfl) (by rw [hl]; rfl) (by rw [hl]; decide) rfl rfl h
noncomputable def E15 (n m : Nat) : Cfg := ⟨M, [0, 1, 4, 5, 10, 14, 25], 26, n, m, []⟩
noncomputable def C15 : Cfg := E15 0 0
@[reducible] noncomputable def r15_0 : List RO := [
  ⟨.var 2, .mv, [.con (.bool false)], none⟩]
@[reducible] noncomputable def r15_1 : List RO := [
  ⟨.loc 6, .mv, [.var 0], none⟩,
  ⟨.loc 7, .lenL, [.loc 6], none⟩,
  ⟨.loc 8, .mv, [.var 1], none⟩,
  ⟨.loc 9, .lenL, [.loc 8], none⟩,
  ⟨.var 4, .bin .neq, [.loc 7, .loc 9], none⟩]
@[reducible] noncomputable def r15_2 : List RO := [
  ⟨.var 2, .mv, [.con (.bool false)], none⟩]
@[reducible] noncomputable def r15_3 : List RO := [
  ⟨.var 3, .mv, [.con (.int .i64 0)], none⟩]
@[reducible] noncomputable def r15_4 : List RO := [
  ⟨.loc 11, .mv, [.var 3], none⟩,
  ⟨.loc 12, .mv, [.var 0], none⟩,
  ⟨.loc 13, .lenL, [.loc 12], none⟩,
  ⟨.var 5, .bin .lss, [.loc 11, .loc 13], none⟩]
@[reducible] noncomputable def r15_5 : List (RO × Bool) := [
  (⟨.loc 17, .mv, [.var 0], none⟩, true),
  (⟨.loc 18, .mv, [.var 3], none⟩, true),
  (⟨.loc 19, .ixaS 1, [.loc 17, .loc 18], none⟩, true),
  (⟨.loc 20, .ld false 1, [.loc 19], none⟩, true),
  (⟨.loc 21, .mv, [.var 1], none⟩, true),
  (⟨.loc 22, .mv, [.var 3], none⟩, true),
  (⟨.loc 23, .ixaS 1, [.loc 21, .loc 22], none⟩, true),
  (⟨.loc 24, .ld false 1, [.loc 23], none⟩, true)]
@[reducible] noncomputable def r15_6 : List RO := [
  ⟨.var 6, .bin .neq, [.loc 20, .loc 24], none⟩]
@[reducible] noncomputable def r15_7 : List RO := [
  ⟨.var 2, .mv, [.con (.bool false)], none⟩]
@[reducible] noncomputable def r15_8 : List RO := [
  ⟨.loc 15, .mv, [.var 3], none⟩,
  ⟨.loc 16, .bin .add, [.loc 15, .con (.int .i64 1)], none⟩,
  ⟨.var 3, .mv, [.loc 16], none⟩]
@[reducible] noncomputable def r15_9 : List RO := [
  ⟨.var 2, .mv, [.con (.bool true)], none⟩]
theorem P15 : C15.M = M := by unfold C15 E15; rfl
theorem i15 {a0 a1 : D} : St.init C15 [a0, a1] ⟨[], []⟩ = ⟨[a0, a1, .undef, .undef, .undef, .undef, .undef], [], ⟨[], []⟩⟩ := by unfold C15 E15; rfl
noncomputable def c15 : RC := (.seq (.reg r15_0) (.seq (.seq (.reg r15_1) (.cond (.var 4) (.seq (.reg r15_2) .ret) .skip)) (.seq (.seq (.reg r15_3) (.block 0 (.loop (.seq (.seq (.reg r15_4) (.cond (.var 5) .skip (.exit 0))) (.seq (.block 1 (.seq (.regD r15_5 r15_6) (.cond (.var 6) (.seq (.reg r15_7) .ret) .skip))) (.reg r15_8)))))) (.seq (.reg r15_9) .ret))))
noncomputable def q15 : List RR := [(.slot (.var 2))]
theorem z15 {n m : Nat} : resCode (E15 n m) (Try.f15.body.getD .skip) = some c15 := by kernel_rfl
theorem zr15 {n m : Nat} : resRs (E15 n m) Try.f15.results.toList = some q15 := by kernel_rfl
theorem ok15 {args : List D} {d : D} (hl : args.length = 2) (h : SWp C15 c15 (fun e s => (match e with | .exit _ => False | _ => True) ∧ rrsWp q15 s fun ds => D.closed (oneOrTup ds) = true ∧ (oneOrTup ds).er = d) (St.init C15 args ⟨[], []⟩)) : Pur M 15 args d :=
  pur_of_body (C := C15) (fn := Try.f15) Try.func15 (by kernel_rfl) (by kernel_rfl) (rc := c15) z15 (rs := q15) zr15 (by kernel_rfl) (by rw [hl]; rfl) (by rw [hl]; decide) rfl rfl h
noncomputable def E12 (n m : Nat) : Cfg := ⟨M, [0, 1, 4, 5, 10, 14, 26], 27, n, m, []⟩
noncomputable def C12 : Cfg := E12 0 0
@[reducible] noncomputable def r12_0 : List RO := [
  ⟨.var 2, .mv, [.con (.bool false)], none⟩]
@[reducible] noncomputable def r12_1 : List RO := [
  ⟨.loc 6, .mv, [.var 0], none⟩,
  ⟨.loc 7, .lenL, [.loc 6], none⟩,
  ⟨.loc 8, .mv, [.var 1], none⟩,
  ⟨.loc 9, .lenL, [.loc 8], none⟩,
  ⟨.var 4, .bin .neq, [.loc 7, .loc 9], none⟩]
@[reducible] noncomputable def r12_2 : List RO := [
  ⟨.var 2, .mv, [.con (.bool false)], none⟩]
@[reducible] noncomputable def r12_3 : List RO := [
  ⟨.var 3, .mv, [.con (.int .i64 0)], none⟩]
@[reducible] noncomputable def r12_4 : List RO := [
  ⟨.loc 11, .mv, [.var 3], none⟩,
  ⟨.loc 12, .mv, [.var 0], none⟩,
  ⟨.loc 13, .lenL, [.loc 12], none⟩,
  ⟨.var 5, .bin .lss, [.loc 11, .loc 13], none⟩]
@[reducible] noncomputable def r12_5 : List (RO × Bool) := [
  (⟨.loc 17, .mv, [.var 0], none⟩, true),
  (⟨.loc 18, .mv, [.var 3], none⟩, true),
  (⟨.loc 19, .ixaS 1, [.loc 17, .loc 18], none⟩, true),
  (⟨.loc 20, .ld false 1, [.loc 19], none⟩, true),
  (⟨.loc 21, .mv, [.var 1], none⟩, true),
  (⟨.loc 22, .mv, [.var 3], none⟩, true),
  (⟨.loc 23, .ixaS 1, [.loc 21, .loc 22], none⟩, true),
  (⟨.loc 24, .ld false 1, [.loc 23], none⟩, true)]
@[reducible] noncomputable def r12_6 : List RO := [
  ⟨.loc 25, .call, [(.con (.fn (.func 15) [] [])), .loc 20, .loc 24], none⟩,
  ⟨.var 6, .un .not, [.loc 25], none⟩]
@[reducible] noncomputable def r12_7 : List RO := [
  ⟨.var 2, .mv, [.con (.bool false)], none⟩]
@[reducible] noncomputable def r12_8 : List RO := [
  ⟨.loc 15, .mv, [.var 3], none⟩,
  ⟨.loc 16, .bin .add, [.loc 15, .con (.int .i64 1)], none⟩,
  ⟨.var 3, .mv, [.loc 16], none⟩]
@[reducible] noncomputable def r12_9 : List RO := [
  ⟨.var 2, .mv, [.con (.bool true)], none⟩]
theorem P12 : C12.M = M := by unfold C12 E12; rfl
theorem i12 {a0 a1 : D} : St.init C12 [a0, a1] ⟨[], []⟩ = ⟨[a0, a1, .undef, .undef, .undef, .undef, .undef], [], ⟨[], []⟩⟩ := by unfold C12 E12; rfl
noncomputable def c12 : RC := (.seq (.reg r12_0) (.seq (.seq (.reg r12_1) (.cond (.var 4) (.seq (.reg r12_2) .ret) .skip)) (.seq (.seq (.reg r12_3) (.block 0 (.loop (.seq (.seq (.reg r12_4) (.cond (.var 5) .skip (.exit 0))) (.seq (.block 1 (.seq (.regD r12_5 r12_6) (.cond (.var 6) (.seq (.reg r12_7) .ret) .skip))) (.reg r12_8)))))) (.seq (.reg r12_9) .ret))))
noncomputable def q12 : List RR := [(.slot (.var 2))]
theorem z12 {n m : Nat} : resCode (E12 n m) (Try.f12.body.getD .skip) = some c12 := by kernel_rfl
theorem zr12 {n m : Nat} : resRs (E12 n m) Try.f12.results.toList = some q12 := by kernel_rfl
theorem ok12 {args : List D} {d : D} (hl : args.length = 2) (h : SWp C12 c12 (fun e s => (match e with | .exit _ => False | _ => True) ∧ rrsWp q12 s fun ds => D.closed (oneOrTup ds) = true ∧ (oneOrTup ds).er = d) (St.init C12 args ⟨[], []⟩)) : Pur M 12 args d :=
  pur_of_body (C := C12) (fn := Try.f12) Try.func12 (by kernel_rfl) (by kernel_rfl) (rc := c12) z12 (rs := q12) zr12 (by kernel_rfl) (by rw [hl]; rfl) (by rw [hl]; decide) rfl rfl h
noncomputable def E20 (n m : Nat) : Cfg := ⟨M, [0, 1, 4, 5, 6, 7, 8, 9, 10, 16, 44, 51, 90], 102, n, m, []⟩
noncomputable def C20 : Cfg := E20 0 0
@[reducible] noncomputable def r20_0 : List RO := [
  ⟨.var 2, .mv, [(.con (.lit (.slice none 0 0)))], none⟩,
  ⟨.var 3, .mv, [.con (.bool false)], none⟩]
@[reducible] noncomputable def r20_1 : List RO := [
  ⟨.loc 11, .mv, [.var 0], none⟩,
  ⟨.loc 12, (.mks 1 8 [(.int .i64 0)]), [.loc 11, .loc 11], none⟩,
  ⟨.var 4, .mv, [.loc 12], none⟩]
@[reducible] noncomputable def r20_2 : List RO := [
  ⟨.var 5, .mv, [.con (.int .i64 0)], none⟩]
@[reducible] noncomputable def r20_3 : List RO := [
  ⟨.var 6, .mv, [.con (.int .i64 0)], none⟩]
@[reducible] noncomputable def r20_4 : List RO := [
  ⟨.loc 13, .mv, [.var 6], none⟩,
  ⟨.loc 14, .mv, [.var 1], none⟩,
  ⟨.loc 15, .lenL, [.loc 14], none⟩,
  ⟨.var 9, .bin .lss, [.loc 13, .loc 15], none⟩]
@[reducible] noncomputable def r20_5 : List (RO × Bool) := [
  (⟨.loc 19, .mv, [.var 1], none⟩, true),
  (⟨.loc 20, .mv, [.var 6], none⟩, true),
  (⟨.loc 21, .ixaS 1, [.loc 19, .loc 20], none⟩, true),
  (⟨.loc 22, .ld false 1, [.loc 21], none⟩, true),
  (⟨.loc 23, .lenL, [.loc 22], none⟩, true),
  (⟨.loc 24, .bin .eql, [.loc 23, .con (.int .i64 0)], none⟩, true),
  (⟨.loc 25, .mv, [.loc 24], none⟩, true),
  (⟨.loc 26, .mv, [.var 6], (some (.loc 25, false))⟩, true),
  (⟨.loc 27, .bin .gtr, [.loc 26, .con (.int .i64 0)], (some (.loc 25, false))⟩, true),
  (⟨.loc 28, .mv, [.loc 27], (some (.loc 25, false))⟩, true),
  (⟨.loc 29, .mv, [.var 1], (some (.loc 28, true))⟩, true),
  (⟨.loc 30, .mv, [.var 6], (some (.loc 28, true))⟩, true),
  (⟨.loc 31, .bin .sub, [.loc 30, .con (.int .i64 1)], (some (.loc 28, true))⟩, true),
  (⟨.loc 32, .ixaS 1, [.loc 29, .loc 31], (some (.loc 28, true))⟩, true),
  (⟨.loc 33, .ld false 1, [.loc 32], (some (.loc 28, true))⟩, true),
  (⟨.loc 34, .ixaS 1, [.loc 33, .con (.int .i64 0)], (some (.loc 28, true))⟩, true),
  (⟨.loc 35, .ld false 1, [.loc 34], (some (.loc 28, true))⟩, true),
  (⟨.loc 36, .mv, [.var 1], (some (.loc 28, true))⟩, true),
  (⟨.loc 37, .mv, [.var 6], (some (.loc 28, true))⟩, true),
  (⟨.loc 38, .ixaS 1, [.loc 36, .loc 37], (some (.loc 28, true))⟩, true),
  (⟨.loc 39, .ld false 1, [.loc 38], (some (.loc 28, true))⟩, true),
  (⟨.loc 40, .ixaS 1, [.loc 39, .con (.int .i64 0)], (some (.loc 28, true))⟩, true),
  (⟨.loc 41, .ld false 1, [.loc 40], (some (.loc 28, true))⟩, true)]
@[reducible] noncomputable def r20_6 : List RO := [
  ⟨.loc 42, .bin .geq, [.loc 35, .loc 41], (some (.loc 28, true))⟩,
  ⟨.loc 43, .pick, [.loc 28, .loc 42, .con (.bool false)], (some (.loc 25, false))⟩,
  ⟨.var 10, .pick, [.loc 25, .con (.bool true), .loc 43], none⟩]
@[reducible] noncomputable def r20_7 : List RO := [
  ⟨.var 2, .mv, [(.con (.lit (.slice none 0 0)))], none⟩,
  ⟨.var 3, .mv, [.con (.bool false)], none⟩]
@[reducible] noncomputable def r20_8 : List RO := [
  ⟨.var 7, .mv, [.con (.int .i64 0)], none⟩]
@[reducible] noncomputable def r20_9 : List RO := [
  ⟨.loc 45, .mv, [.var 7], none⟩,
  ⟨.loc 46, .mv, [.var 1], none⟩,
  ⟨.loc 47, .mv, [.var 6], none⟩,
  ⟨.loc 48, .ixaS 1, [.loc 46, .loc 47], none⟩,
  ⟨.loc 49, .ld false 1, [.loc 48], none⟩,
  ⟨.loc 50, .lenL, [.loc 49], none⟩,
  ⟨.var 11, .bin .lss, [.loc 45, .loc 50], none⟩]
@[reducible] noncomputable def r20_10 : List RO := [
  ⟨.loc 54, .mv, [.var 1], none⟩,
  ⟨.loc 55, .mv, [.var 6], none⟩,
  ⟨.loc 56, .ixaS 1, [.loc 54, .loc 55], none⟩,
  ⟨.loc 57, .ld false 1, [.loc 56], none⟩,
  ⟨.loc 58, .mv, [.var 7], none⟩,
  ⟨.loc 59, .ixaS 1, [.loc 57, .loc 58], none⟩,
  ⟨.loc 60, .ld false 1, [.loc 59], none⟩,
  ⟨.var 8, .mv, [.loc 60], none⟩]
@[reducible] noncomputable def r20_11 : List RO := [
  ⟨.loc 61, .mv, [.var 8], none⟩,
  ⟨.loc 62, .bin .lss, [.loc 61, .con (.int .i64 0)], none⟩,
  ⟨.loc 63, .mv, [.loc 62], none⟩,
  ⟨.loc 64, .mv, [.var 8], (some (.loc 63, false))⟩,
  ⟨.loc 65, .mv, [.var 0], (some (.loc 63, false))⟩,
  ⟨.loc 66, .bin .geq, [.loc 64, .loc 65], (some (.loc 63, false))⟩,
  ⟨.loc 67, .pick, [.loc 63, .con (.bool true), .loc 66], none⟩,
  ⟨.loc 68, .mv, [.loc 67], none⟩,
  ⟨.loc 69, .mv, [.var 7], (some (.loc 68, false))⟩,
  ⟨.loc 70, .bin .gtr, [.loc 69, .con (.int .i64 0)], (some (.loc 68, false))⟩,
  ⟨.loc 71, .mv, [.loc 70], (some (.loc 68, false))⟩,
  ⟨.loc 72, .mv, [.var 1], (some (.loc 71, true))⟩,
  ⟨.loc 73, .mv, [.var 6], (some (.loc 71, true))⟩,
  ⟨.loc 74, .ixaS 1, [.loc 72, .loc 73], (some (.loc 71, true))⟩,
  ⟨.loc 75, .ld false 1, [.loc 74], (some (.loc 71, true))⟩,
  ⟨.loc 76, .mv, [.var 7], (some (.loc 71, true))⟩,
  ⟨.loc 77, .bin .sub, [.loc 76, .con (.int .i64 1)], (some (.loc 71, true))⟩,
  ⟨.loc 78, .ixaS 1, [.loc 75, .loc 77], (some (.loc 71, true))⟩,
  ⟨.loc 79, .ld false 1, [.loc 78], (some (.loc 71, true))⟩,
  ⟨.loc 80, .mv, [.var 8], (some (.loc 71, true))⟩,
  ⟨.loc 81, .bin .geq, [.loc 79, .loc 80], (some (.loc 71, true))⟩,
  ⟨.loc 82, .pick, [.loc 71, .loc 81, .con (.bool false)], (some (.loc 68, false))⟩,
  ⟨.loc 83, .pick, [.loc 68, .con (.bool true), .loc 82], none⟩,
  ⟨.loc 84, .mv, [.loc 83], none⟩,
  ⟨.loc 85, .mv, [.var 4], (some (.loc 84, false))⟩,
  ⟨.loc 86, .mv, [.var 8], (some (.loc 84, false))⟩,
  ⟨.loc 87, .ixaS 1, [.loc 85, .loc 86], (some (.loc 84, false))⟩,
  ⟨.loc 88, .ld false 1, [.loc 87], (some (.loc 84, false))⟩,
  ⟨.loc 89, .bin .neq, [.loc 88, .con (.int .i64 0)], (some (.loc 84, false))⟩,
  ⟨.var 12, .pick, [.loc 84, .con (.bool true), .loc 89], none⟩]
@[reducible] noncomputable def r20_12 : List RO := [
  ⟨.var 2, .mv, [(.con (.lit (.slice none 0 0)))], none⟩,
  ⟨.var 3, .mv, [.con (.bool false)], none⟩]
@[reducible] noncomputable def r20_13 : List RO := [
  ⟨.loc 91, .mv, [.var 4], none⟩,
  ⟨.loc 92, .mv, [.var 8], none⟩,
  ⟨.loc 93, .mv, [.var 6], none⟩,
  ⟨.loc 94, .bin .add, [.loc 93, .con (.int .i64 1)], none⟩,
  ⟨.loc 95, .ixaS 1, [.loc 91, .loc 92], none⟩,
  ⟨.none, .st 1, [.loc 95, .loc 94], none⟩]
@[reducible] noncomputable def r20_14 : List RO := [
  ⟨.loc 96, .mv, [.var 5], none⟩,
  ⟨.loc 97, .bin .add, [.loc 96, .con (.int .i64 1)], none⟩,
  ⟨.var 5, .mv, [.loc 97], none⟩]
@[reducible] noncomputable def r20_15 : List RO := [
  ⟨.loc 52, .mv, [.var 7], none⟩,
  ⟨.loc 53, .bin .add, [.loc 52, .con (.int .i64 1)], none⟩,
  ⟨.var 7, .mv, [.loc 53], none⟩]
@[reducible] noncomputable def r20_16 : List RO := [
  ⟨.loc 17, .mv, [.var 6], none⟩,
  ⟨.loc 18, .bin .add, [.loc 17, .con (.int .i64 1)], none⟩,
  ⟨.var 6, .mv, [.loc 18], none⟩]
@[reducible] noncomputable def r20_17 : List RO := [
  ⟨.loc 98, .mv, [.var 4], none⟩,
  ⟨.loc 99, .mv, [.var 5], none⟩,
  ⟨.loc 100, .mv, [.var 0], none⟩,
  ⟨.loc 101, .bin .eql, [.loc 99, .loc 100], none⟩,
  ⟨.var 2, .mv, [.loc 98], none⟩,
  ⟨.var 3, .mv, [.loc 101], none⟩]
theorem P20 : C20.M = M := by unfold C20 E20; rfl
theorem i20 {a0 a1 : D} : St.init C20 [a0, a1] ⟨[], []⟩ = ⟨[a0, a1, .undef, .undef, .undef, .undef, .undef, .undef, .undef, .undef, .undef, .undef, .undef], [], ⟨[], []⟩⟩ := by unfold C20 E20; rfl
noncomputable def c20 : RC := (.seq (.reg r20_0) (.seq (.reg r20_1) (.seq (.reg r20_2) (.seq (.seq (.reg r20_3) (.block 0 (.loop (.seq (.seq (.reg r20_4) (.cond (.var 9) .skip (.exit 0))) (.seq (.block 1 (.seq (.seq (.regD r20_5 r20_6) (.cond (.var 10) (.seq (.reg r20_7) .ret) .skip)) (.seq (.reg r20_8) (.block 2 (.loop (.seq (.seq (.reg r20_9) (.cond (.var 11) .skip (.exit 2))) (.seq (.block 3 (.seq (.reg r20_10) (.seq (.seq (.reg r20_11) (.cond (.var 12) (.seq (.reg r20_12) .ret) .skip)) (.seq (.reg r20_13) (.reg r20_14))))) (.reg r20_15)))))))) (.reg r20_16)))))) (.seq (.reg r20_17) .ret)))))
noncomputable def q20 : List RR := [(.slot (.var 2)), (.slot (.var 3))]
theorem z20 {n m : Nat} : resCode (E20 n m) (Try.f20.body.getD .skip) = some c20 := by kernel_rfl
theorem zr20 {n m : Nat} : resRs (E20 n m) Try.f20.results.toList = some q20 := by kernel_rfl
theorem ow20 {args : List D} {d : D} (hl : args.length = 2) (h : SWp C20 c20 (fun e s => (match e with | .exit _ => False | _ => True) ∧ ∃ s1, Weak C20 s s1 ∧ rrsWp q20 s1 fun ds => D.closed (oneOrTup ds) = true ∧ (oneOrTup ds).er = d) (St.init C20 args ⟨[], []⟩)) : Pur M 20 args d :=
  pur_of_bodyW (C := C20) (fn := Try.f20) Try.func20 (by kernel_rfl) (by kernel_rfl) (rc := c20) z20 (rs := q20) zr20 (by kernel_rfl) (by rw [hl]; rfl) (by rw [hl]; decide) rfl rfl h
noncomputable def E11 (n m : Nat) : Cfg := ⟨M, [0, 2], 5, n, m, []⟩
noncomputable def C11 : Cfg := E11 0 0
@[reducible] noncomputable def r11_0 : List RO := [
  ⟨.var 1, .mv, [.con (.bool false)], none⟩]
@[reducible] noncomputable def r11_1 : List RO := [
  ⟨.loc 3, .mv, [.var 0], none⟩,
  ⟨.loc 4, .call, [(.con (.fn (.func 25) [] [])), .loc 3, .con (.int .i64 40)], none⟩,
  ⟨.var 1, .mv, [.loc 4], none⟩]
theorem P11 : C11.M = M := by unfold C11 E11; rfl
theorem i11 {a0 : D} : St.init C11 [a0] ⟨[], []⟩ = ⟨[a0, .undef], [], ⟨[], []⟩⟩ := by unfold C11 E11; rfl
noncomputable def c11 : RC := (.seq (.reg r11_0) (.seq (.reg r11_1) .ret))
noncomputable def q11 : List RR := [(.slot (.var 1))]
theorem z11 {n m : Nat} : resCode (E11 n m) (Try.f11.body.getD .skip) = some c11 := by kernel_rfl
theorem zr11 {n m : Nat} : resRs (E11 n m) Try.f11.results.toList = some q11 := by kernel_rfl
theorem ok11 {args : List D} {d : D} (hl : args.length = 1) (h : SWp C11 c11 (fun e s => (match e with | .exit _ => False | _ => True) ∧ rrsWp q11 s fun ds => D.closed (oneOrTup ds) = true ∧ (oneOrTup ds).er = d) (St.init C11 args ⟨[], []⟩)) : Pur M 11 args d :=
  pur_of_body (C := C11) (fn := Try.f11) Try.func11 (by kernel_rfl) (by kernel_rfl) (rc := c11) z11 (rs := q11) zr11 (by kernel_rfl) (by rw [hl]; rfl) (by rw [hl]; decide) rfl rfl h
noncomputable def E38 (n m : Nat) : Cfg := ⟨M, [0, 2, 3], 10, n, m, []⟩
noncomputable def C38 : Cfg := E38 0 0
@[reducible] noncomputable def r38_0 : List RO := [
  ⟨.var 1, .mv, [(.con (.lit (.slice none 0 0)))], none⟩]
@[reducible] noncomputable def r38_1 : List RO := [
  ⟨.loc 4, .mv, [.var 0], none⟩,
  ⟨.loc 5, .call, [(.con (.fn (.func 46) [] [])), .loc 4], none⟩,
  ⟨.var 2, .mv, [.loc 5], none⟩]
@[reducible] noncomputable def r38_2 : List RO := [
  ⟨.loc 6, .mv, [.var 2], none⟩,
  ⟨.loc 7, .call, [(.con (.fn (.func 47) [] [])), .loc 6], none⟩]
@[reducible] noncomputable def r38_3 : List RO := [
  ⟨.loc 8, .mv, [.var 2], none⟩,
  ⟨.loc 9, .call, [(.con (.fn (.func 48) [] [])), .loc 8], none⟩,
  ⟨.var 1, .mv, [.loc 9], none⟩]
theorem P38 : C38.M = M := by unfold C38 E38; rfl
theorem i38 {a0 : D} : St.init C38 [a0] ⟨[], []⟩ = ⟨[a0, .undef, .undef], [], ⟨[], []⟩⟩ := by unfold C38 E38; rfl
noncomputable def c38 : RC := (.seq (.reg r38_0) (.seq (.reg r38_1) (.seq (.reg r38_2) (.seq (.reg r38_3) .ret))))
noncomputable def q38 : List RR := [(.slot (.var 1))]
theorem z38 {n m : Nat} : resCode (E38 n m) (Try.f38.body.getD .skip) = some c38 := by kernel_rfl
theorem zr38 {n m : Nat} : resRs (E38 n m) Try.f38.results.toList = some q38 := by kernel_rfl
theorem ow38 {args : List D} {d : D} (hl : args.length = 1) (h : SWp C38 c38 (fun e s => (match e with | .exit _ => False | _ => True) ∧ ∃ s1, Weak C38 s s1 ∧ rrsWp q38 s1 fun ds => D.closed (oneOrTup ds) = true ∧ (oneOrTup ds).er = d) (St.init C38 args ⟨[], []⟩)) : Pur M 38 args d :=
  pur_of_bodyW (C := C38) (fn := Try.f38) Try.func38 (by kernel_rfl) (by kernel_rfl) (rc := c38) z38 (rs := q38) zr38 (by kernel_rfl) (by rw [hl]; rfl) (by rw [hl]; decide) rfl rfl h
noncomputable def E21 (n m : Nat) : Cfg := ⟨M, [0, 1, 2, 3, 5, 8, 10, 11, 12, 13], 24, n, m, []⟩
noncomputable def C21 : Cfg := E21 0 0
@[reducible] noncomputable def r21_0 : List RO := [
  ⟨.var 1, .box, [.var 0], none⟩,
  ⟨.var 2, .mv, [(.con (.lit (.slice none 0 0)))], none⟩]
@[reducible] noncomputable def r21_1 : List RO := [
  ⟨.loc 6, .ld true 2, [.var 1], none⟩,
  ⟨.loc 7, .call, [(.con (.fn (.func 36) [] [])), .loc 6], none⟩,
  ⟨.var 5, .un .not, [.loc 7], none⟩]
@[reducible] noncomputable def r21_2 : List RO := [
  ⟨.var 2, .mv, [(.con (.lit (.slice none 0 0)))], none⟩]
@[reducible] noncomputable def r21_3 : List RO := [
  ⟨.var 3, .mv, [(.con (.lit (.slice none 0 0)))], none⟩]
@[reducible] noncomputable def r21_4 : List RO := [
  ⟨.loc 9, .fld 0, [.var 1], none⟩,
  ⟨.var 6, .ld false 1, [.loc 9], none⟩,
  ⟨.var 7, .lenL, [.var 6], none⟩,
  ⟨.var 8, .mv, [.con (.int .i64 0)], none⟩]
@[reducible] noncomputable def r21_5 : List RO := [
  ⟨.var 9, .bin .lss, [.var 8, .var 7], none⟩]
@[reducible] noncomputable def r21_6 : List RO := [
  ⟨.loc 14, .ixaS 14, [.var 6, .var 8], none⟩,
  ⟨.loc 15, .ld true 14, [.loc 14], none⟩,
  ⟨.var 4, (.newb [(.int .i64 0), (.int .i64 0), (.str []), (.str []), (.str []), (.str []), (.str []), (.str []), (.int .i64 0), (.int .i64 0), (.int .i64 0), (.int .i64 0), (.int .i64 0), (.int .i64 0)]), [], none⟩,
  ⟨.none, .st 14, [.var 4, .loc 15], none⟩]
@[reducible] noncomputable def r21_7 : List RO := [
  ⟨.loc 16, .mv, [.var 3], none⟩,
  ⟨.loc 17, .ld true 14, [.var 4], none⟩,
  ⟨.loc 18, .call, [(.con (.fn (.func 37) [] [])), .loc 17], none⟩,
  ⟨.loc 19, .bsl 1, [.loc 18], none⟩,
  ⟨.loc 20, .app 1 24 36, [.loc 16, .loc 19], none⟩,
  ⟨.var 3, .mv, [.loc 20], none⟩]
@[reducible] noncomputable def r21_8 : List RO := [
  ⟨.loc 21, .bin .add, [.var 8, .con (.int .i64 1)], none⟩,
  ⟨.var 8, .mv, [.loc 21], none⟩]
@[reducible] noncomputable def r21_9 : List RO := [
  ⟨.loc 22, .mv, [.var 3], none⟩,
  ⟨.loc 23, .call, [(.con (.fn (.func 38) [] [])), .loc 22], none⟩,
  ⟨.var 2, .mv, [.loc 23], none⟩]
theorem P21 : C21.M = M := by unfold C21 E21; rfl
theorem i21 {a0 : D} : St.init C21 [a0] ⟨[], []⟩ = ⟨[a0, .undef, .undef, .undef, .undef, .undef, .undef, .undef, .undef, .undef], [], ⟨[], []⟩⟩ := by unfold C21 E21; rfl
noncomputable def c21 : RC := (.seq (.reg r21_0) (.seq (.seq (.reg r21_1) (.cond (.var 5) (.seq (.reg r21_2) .ret) .skip)) (.seq (.reg r21_3) (.seq (.seq (.reg r21_4) (.block 0 (.loop (.seq (.reg r21_5) (.seq (.cond (.var 9) .skip (.exit 0)) (.seq (.block 1 (.seq (.reg r21_6) (.reg r21_7))) (.reg r21_8))))))) (.seq (.reg r21_9) .ret)))))
noncomputable def q21 : List RR := [(.slot (.var 2))]
theorem z21 {n m : Nat} : resCode (E21 n m) (Try.f21.body.getD .skip) = some c21 := by kernel_rfl
theorem zr21 {n m : Nat} : resRs (E21 n m) Try.f21.results.toList = some q21 := by kernel_rfl
theorem ow21 {args : List D} {d : D} (hl : args.length = 1) (h : SWp C21 c21 (fun e s => (match e with | .exit _ => False | _ => True) ∧ ∃ s1, Weak C21 s s1 ∧ rrsWp q21 s1 fun ds => D.closed (oneOrTup ds) = true ∧ (oneOrTup ds).er = d) (St.init C21 args ⟨[], []⟩)) : Pur M 21 args d :=
  pur_of_bodyW (C := C21) (fn := Try.f21) Try.func21 (by kernel_rfl) (by kernel_rfl) (rc := c21) z21 (rs := q21) zr21 (by kernel_rfl) (by rw [hl]; rfl) (by rw [hl]; decide) rfl rfl h
theorem ok21 {args : List D} {d : D} (hl : args.length = 1) (h : SWp C21 c21 (fun e s => (match e with | .exit _ => False | _ => True) ∧ rrsWp q21 s fun ds => D.closed (oneOrTup ds) = true ∧ (oneOrTup ds).er = d) (St.init C21 args ⟨[], []⟩)) : Pur M 21 args d :=
  pur_of_body (C := C21) (fn := Try.f21) Try.func21 (by kernel_rfl) (by kernel_rfl) (rc := c21) z21 (rs := q21) zr21 (by kernel_rfl) (by rw [hl]; rfl) (by rw [hl]; decide) rfl rfl h
noncomputable def E46 (n m : Nat) : Cfg := ⟨M, [0, 2, 3, 5, 6, 8, 9, 10, 11, 12, 20, 25, 26, 27, 28], 36, n, m, []⟩
@[reducible] noncomputable def r46_0 : List RO := [
  ⟨.var 1, .mv, [(.con (.lit (.slice none 0 0)))], none⟩]
@[reducible] noncomputable def r46_1 : List RO := [
  ⟨.var 2, .mv, [.con (.int .i64 0)], none⟩]
@[reducible] noncomputable def r46_2 : List RO := [
  ⟨.var 6, .mv, [.var 0], none⟩,
  ⟨.var 7, .lenL, [.var 6], none⟩,
  ⟨.var 8, .mv, [.con (.int .i64 0)], none⟩]
@[reducible] noncomputable def r46_3 : List RO := [
  ⟨.var 9, .bin .lss, [.var 8, .var 7], none⟩]
@[reducible] noncomputable def r46_4 : List RO := [
  ⟨.loc 13, .ixaS 1, [.var 6, .var 8], none⟩,
  ⟨.loc 14, .ld false 1, [.loc 13], none⟩,
  ⟨.var 3, .mv, [.loc 14], none⟩]
@[reducible] noncomputable def r46_5 : List RO := [
  ⟨.loc 15, .mv, [.var 2], none⟩,
  ⟨.loc 16, .mv, [.var 3], none⟩,
  ⟨.loc 17, .lenL, [.loc 16], none⟩,
  ⟨.loc 18, .bin .add, [.loc 15, .loc 17], none⟩,
  ⟨.var 2, .mv, [.loc 18], none⟩]
@[reducible] noncomputable def r46_6 : List RO := [
  ⟨.loc 19, .mv, [.var 2], none⟩,
  ⟨.var 10, .bin .lss, [.loc 19, .con (.int .i64 0)], none⟩]
@[reducible] noncomputable def r46_7 : List RO := [
  ⟨.loc 22, .bin .add, [.var 8, .con (.int .i64 1)], none⟩,
  ⟨.var 8, .mv, [.loc 22], none⟩]
@[reducible] noncomputable def r46_8 : List RO := [
  ⟨.loc 23, .mv, [.var 2], none⟩,
  ⟨.loc 24, .call, [(.con (.fn (.func 56) [] [])), (.con (.lit (.slice none 0 0))), .loc 23], none⟩,
  ⟨.var 4, .mv, [.loc 24], none⟩]
@[reducible] noncomputable def r46_9 : List RO := [
  ⟨.var 11, .mv, [.var 0], none⟩,
  ⟨.var 12, .lenL, [.var 11], none⟩,
  ⟨.var 13, .mv, [.con (.int .i64 0)], none⟩]
@[reducible] noncomputable def r46_10 : List RO := [
  ⟨.var 14, .bin .lss, [.var 13, .var 12], none⟩]
@[reducible] noncomputable def r46_11 : List RO := [
  ⟨.loc 29, .ixaS 1, [.var 11, .var 13], none⟩,
  ⟨.loc 30, .ld false 1, [.loc 29], none⟩,
  ⟨.var 5, .mv, [.loc 30], none⟩]
@[reducible] noncomputable def r46_12 : List RO := [
  ⟨.loc 31, .mv, [.var 4], none⟩,
  ⟨.loc 32, .mv, [.var 5], none⟩,
  ⟨.loc 33, .app 1 16 9, [.loc 31, .loc 32], none⟩,
  ⟨.var 4, .mv, [.loc 33], none⟩]
@[reducible] noncomputable def r46_13 : List RO := [
  ⟨.loc 34, .bin .add, [.var 13, .con (.int .i64 1)], none⟩,
  ⟨.var 13, .mv, [.loc 34], none⟩]
@[reducible] noncomputable def r46_14 : List RO := [
  ⟨.loc 35, .mv, [.var 4], none⟩,
  ⟨.var 1, .mv, [.loc 35], none⟩]
theorem pe46 {n m : Nat} : (E46 n m).M = M := by unfold E46; rfl
theorem ie46 {n m : Nat} {hp : Hp} {a0 : D} : St.init (E46 n m) [a0] hp = ⟨[a0, .undef, .undef, .undef, .undef, .undef, .undef, .undef, .undef, .undef, .undef, .undef, .undef, .undef, .undef], [], hp⟩ := by unfold E46; rfl
noncomputable def c46 : RC := (.seq (.reg r46_0) (.seq (.reg r46_1) (.seq (.seq (.reg r46_2) (.block 0 (.loop (.seq (.reg r46_3) (.seq (.cond (.var 9) .skip (.exit 0)) (.seq (.block 1 (.seq (.reg r46_4) (.seq (.reg r46_5) (.seq (.reg r46_6) (.cond (.var 10) .bad .skip))))) (.reg r46_7))))))) (.seq (.reg r46_8) (.seq (.seq (.reg r46_9) (.block 2 (.loop (.seq (.reg r46_10) (.seq (.cond (.var 14) .skip (.exit 2)) (.seq (.block 3 (.seq (.reg r46_11) (.reg r46_12))) (.reg r46_13))))))) (.seq (.reg r46_14) .ret))))))
noncomputable def q46 : List RR := [(.slot (.var 1))]
theorem z46 {n m : Nat} : resCode (E46 n m) (Try.f46.body.getD .skip) = some c46 := by kernel_rfl
theorem zr46 {n m : Nat} : resRs (E46 n m) Try.f46.results.toList = some q46 := by kernel_rfl
theorem oe46 {args : List D} {hp : Hp} {R : D → Hp → Prop} (n m : Nat) (hl : args.length = 1) (hn : n = hp.H.length) (hm : m = hp.tk.length) (h : SWp (E46 n m) c46 (fun e s => (match e with | .exit _ => False | _ => True) ∧ ∃ s1, Weak (E46 n m) s s1 ∧ rrsWp q46 s1 fun ds => R (oneOrTup ds) s1.hp) (St.init (E46 n m) args hp)) : Eff M 46 args hp R :=
  eff_of_body (C := E46 n m) (fn := Try.f46) Try.func46 (by kernel_rfl) (by kernel_rfl) (rc := c46) z46 (rs := q46) zr46 (by kernel_rfl) (by rw [hl]; rfl) (by rw [hl]; exact (by decide : 1 ≤ 36)) hn hm h
end Go.Proofs.Ytofnggfpegcllaa
end
