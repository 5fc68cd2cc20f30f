/- Own texts, merged by a program: the engine that walks the code, and what the functions that the law reaches compute. -/
import Derived.Test.YtcchbohfcmfmlaaGreatQa2
import Derived.Lib.LaidTab
import Derived.Sort.Grow
import Derived.Deep.Draws
import Derived.ChangeSame
import Derived.ChangeShapes
import Derived.RowKit
import Derived.RangeFuncLeaves
import Derived.RangeFuncIn
import Derived.RangeFuncRecord
import Derived.Deep.Slices
import Derived.OpenShut
import Derived.Carry
import Derived.Shelf.Vars
import Derived.KernelRfl
import Derived.Shelf.Small.Bits
import Derived.Shelf.Small.Strs
import Derived.Shelf.Strconv.Itoa0
import Derived.Shelf.Strings.Search1
import Derived.Shelf.Sort.Plain
import Derived.Shelf.Slices.Turned
import Derived.Shelf.Slices.In.SortNone
import Derived.Test.YtcchbohfcmfmlaaGreatProg
import Derived.Lib.ItoaNum
section
set_option linter.unusedSimpArgs false
set_option maxHeartbeats 1000000
namespace GoV
open Go
def OpS (P : Mod) (oc : OC) (ds : List D) (dst : Dst) (r : List RO) (K : St → Prop) (s : St) : Prop :=
  OcWp P oc ds s.hp fun d hp => opsWp P r K ({ s with hp := hp }.put dst d)
def GdS (P : Mod) (b : D) (g : Opd) (want : Bool) (dst : Dst) (oc : OC) (args : List Opd) (r : List RO) (K : St → Prop) (s : St) : Prop :=
  match b with
  | .bool b => (b = want → opsWp P (⟨dst, oc, args, none⟩ :: r) K (s.setO g (.bool want))) ∧ (b = (!want) → opsWp P r K ((s.setO g (.bool (!want))).put dst .skip))
  | .skip => opsWp P r K (s.put dst .skip)
  | _ => False
def OpQ (P : Mod) (oc : OC) (ds : List D) (dst : Dst) (rq : List (RO × Bool)) (K : St → Prop) (s : St) : Prop :=
  zAg P oc ds s.hp fun d => opsQ P rq K (s.put dst d)
def GdQ (P : Mod) (qf : Bool) (b : D) (g : Opd) (want : Bool) (dst : Dst) (oc : OC) (args : List Opd) (rq : List (RO × Bool)) (K : St → Prop) (s : St) : Prop :=
  match b with
  | .bool b => (b = want → opsQ P ((⟨dst, oc, args, none⟩, qf) :: rq) K (s.setO g (.bool want))) ∧ (b = (!want) → opsQ P rq K ((s.setO g (.bool (!want))).put dst .skip))
  | .skip => opsQ P rq K (s.put dst .skip)
  | _ => False
def OpC (P : Mod) (oc : OC) (ds : List D) (dst : Dst) (rq : List (RO × Bool)) (K : St → Prop) (s : St) : Prop :=
  detWp P oc ds s.hp fun d hp => opsQ P rq K ({ s with hp := hp }.put dst d)
def LdS (P : Mod) (ag : Bool) (n : Nat) (B : Option Blk) (off : Nat) (dst : Dst) (r : List RO) (K : St → Prop) (s : St) : Prop :=
  ∃ B' cs, B = some B' ∧ B'.csq = some cs ∧ off + n ≤ cs.length ∧ opsWp P r K (s.put dst (if ag then .agg ((cs.drop off).take n) else cs.getD off .u0))
def LdQ (P : Mod) (ag : Bool) (n : Nat) (B : Option Blk) (off : Nat) (dst : Dst) (rq : List (RO × Bool)) (K : St → Prop) (s : St) : Prop :=
  ∃ B' cs, B = some B' ∧ B'.csq = some cs ∧ off + n ≤ cs.length ∧ opsQ P rq K (s.put dst (if ag then .agg ((cs.drop off).take n) else cs.getD off .u0))
def StS (P : Mod) (n : Nat) (B : Option Blk) (b off : Nat) (v : D) (dst : Dst) (r : List RO) (K : St → Prop) (s : St) : Prop :=
  ∃ B' cs, B = some B' ∧ B'.csq = some cs ∧ v.iV = true ∧ v.cells.length = n ∧ off + n ≤ cs.length ∧ opsWp P r K ({ s with hp := { s.hp with H := s.hp.H.set b (B'.putc (setL cs off v.cells)) } }.put dst .skip)
def BlS (P : Mod) (cs : Option (List D)) (dst : Dst) (r : List RO) (K : St → Prop) (s : St) : Prop := ∃ c, cs = some c ∧ opsWp P r K (s.put dst (.agg c))
def BlQ (P : Mod) (cs : Option (List D)) (dst : Dst) (rq : List (RO × Bool)) (K : St → Prop) (s : St) : Prop := ∃ c, cs = some c ∧ opsQ P rq K (s.put dst (.agg c))
def EqS (P : Mod) (neg : Bool) (b : Option Bool) (dst : Dst) (r : List RO) (K : St → Prop) (s : St) : Prop := ∃ c, b = some c ∧ opsWp P r K (s.put dst (.bool (if neg then !c else c)))
def EqQ (P : Mod) (neg : Bool) (b : Option Bool) (dst : Dst) (rq : List (RO × Bool)) (K : St → Prop) (s : St) : Prop := ∃ c, b = some c ∧ opsQ P rq K (s.put dst (.bool (if neg then !c else c)))
def LgS (P : Mod) (ag : Bool) (n : Nat) (V : Option Tv) (m off : Nat) (dst : Dst) (r : List RO) (K : St → Prop) (s : St) : Prop :=
  ∃ k cs, V = some (.chg k cs) ∧ cs.length = m * k ∧ off + n ≤ cs.length ∧ opsWp P r K (s.put dst (if ag then .agg ((cs.drop off).take n) else cs.getD off .u0))
def LgQ (P : Mod) (ag : Bool) (n : Nat) (V : Option Tv) (m off : Nat) (dst : Dst) (rq : List (RO × Bool)) (K : St → Prop) (s : St) : Prop :=
  ∃ k cs, V = some (.chg k cs) ∧ cs.length = m * k ∧ off + n ≤ cs.length ∧ opsQ P rq K (s.put dst (if ag then .agg ((cs.drop off).take n) else cs.getD off .u0))
def SgS (P : Mod) (n : Nat) (V : Option Tv) (t m off : Nat) (v : D) (dst : Dst) (r : List RO) (K : St → Prop) (s : St) : Prop :=
  ∃ k cs, V = some (.chg k cs) ∧ cs.length = m * k ∧ v.iV = true ∧ v.cells.length = n ∧ off + n ≤ cs.length ∧ opsWp P r K ({ s with hp := { s.hp with tk := s.hp.tk.set t (.chg k (setL cs off v.cells)) } }.put dst .skip)
def MmS (P : Mod) (k : IntKind) (b : Option Int) (dst : Dst) (r : List RO) (K : St → Prop) (s : St) : Prop := ∃ c, b = some c ∧ opsWp P r K (s.put dst (.int k c))
def MmQ (P : Mod) (k : IntKind) (b : Option Int) (dst : Dst) (rq : List (RO × Bool)) (K : St → Prop) (s : St) : Prop := ∃ c, b = some c ∧ opsQ P rq K (s.put dst (.int k c))
section
variable {P : Mod} {oc : OC} {args : List Opd} {dst : Dst} {r : List RO} {rq : List (RO × Bool)} {qf : Bool} {K : St → Prop} {s : St} {g : Opd} {want : Bool} {k k' : IntKind} {a b : Int} {x y : D} {ds : List D}
theorem e_nil : opsWp P [] K s = K s := propext Iff.rfl
theorem e_step : opsWp P (⟨dst, oc, args, none⟩ :: r) K s = OpS P oc (args.map s.get) dst r K s := propext Iff.rfl
theorem e_guard : opsWp P (⟨dst, oc, args, some (g, want)⟩ :: r) K s = GdS P (s.get g) g want dst oc args r K s := by
  simp only [opsWp, headWp, GdS]
  cases s.get g <;> simp only [opsWp, headWp, zD7]
theorem f_nil : opsQ P [] K s = K s := propext Iff.rfl
theorem f_step : opsQ P ((⟨dst, oc, args, none⟩, true) :: rq) K s = OpQ P (qOp oc) (args.map s.get) dst rq K s := propext Iff.rfl
theorem f_stepD : opsQ P ((⟨dst, oc, args, none⟩, false) :: rq) K s = if zAc (qOp oc) = true then OpC P (qOp oc) (args.map s.get) dst rq K s else OpS P (qOp oc) (args.map s.get) dst [] (opsQ P rq K) s := by
  split
  · rfl
  · rename_i hc
    show detWp _ _ _ _ _ = _
    rw [det_op (qOp_ne _) (by simpa using hc)]; rfl
theorem f_guard : opsQ P ((⟨dst, oc, args, some (g, want)⟩, qf) :: rq) K s = GdQ P qf (s.get g) g want dst oc args rq K s := by
  simp only [opsQ, headQ, GdQ]
  cases s.get g <;> simp only [opsQ, headQ, zD7]
theorem g_tt : GdS P (.bool true) g true dst oc args r K s = opsWp P (⟨dst, oc, args, none⟩ :: r) K (s.setO g (.bool true)) := by simp [GdS]
theorem g_tf : GdS P (.bool true) g false dst oc args r K s = opsWp P r K ((s.setO g (.bool true)).put dst .skip) := by simp [GdS]
theorem g_ft : GdS P (.bool false) g true dst oc args r K s = opsWp P r K ((s.setO g (.bool false)).put dst .skip) := by simp [GdS]
theorem g_ff : GdS P (.bool false) g false dst oc args r K s = opsWp P (⟨dst, oc, args, none⟩ :: r) K (s.setO g (.bool false)) := by simp [GdS]
theorem g_sk : GdS P .skip g want dst oc args r K s = opsWp P r K (s.put dst .skip) := propext Iff.rfl
theorem h_tt : GdQ P qf (.bool true) g true dst oc args rq K s = opsQ P ((⟨dst, oc, args, none⟩, qf) :: rq) K (s.setO g (.bool true)) := by simp [GdQ]
theorem h_tf : GdQ P qf (.bool true) g false dst oc args rq K s = opsQ P rq K ((s.setO g (.bool true)).put dst .skip) := by simp [GdQ]
theorem h_ft : GdQ P qf (.bool false) g true dst oc args rq K s = opsQ P rq K ((s.setO g (.bool false)).put dst .skip) := by simp [GdQ]
theorem h_ff : GdQ P qf (.bool false) g false dst oc args rq K s = opsQ P ((⟨dst, oc, args, none⟩, qf) :: rq) K (s.setO g (.bool false)) := by simp [GdQ]
theorem h_sk : GdQ P qf .skip g want dst oc args rq K s = opsQ P rq K (s.put dst .skip) := propext Iff.rfl
theorem gd_split {c : Bool} (h1 : c = true → GdS P (.bool true) g want dst oc args r K s) (h2 : c = false → GdS P (.bool false) g want dst oc args r K s) : GdS P (.bool c) g want dst oc args r K s := by
  cases c
  · exact h2 rfl
  · exact h1 rfl
theorem gq_split {c : Bool} (h1 : c = true → GdQ P qf (.bool true) g want dst oc args rq K s) (h2 : c = false → GdQ P qf (.bool false) g want dst oc args rq K s) : GdQ P qf (.bool c) g want dst oc args rq K s := by
  cases c
  · exact h2 rfl
  · exact h1 rfl
theorem o_mv : OpS P .mv [x] dst r K s = opsWp P r K (s.put dst x) := propext Iff.rfl
theorem p_mv : OpQ P .mv [x] dst rq K s = opsQ P rq K (s.put dst x) := by simp [OpQ, zAg, zAc, opWp]
theorem o_nckP {bk o : Nat} : OpS P .nck [.ptr bk o] dst r K s = opsWp P r K (s.put dst (.ptr bk o)) := by simp [OpS, OcWp, zAc, opWp]
theorem p_nckP {bk o : Nat} : OpQ P .nck [.ptr bk o] dst rq K s = opsQ P rq K (s.put dst (.ptr bk o)) := by simp [OpQ, zAg, zAc, opWp]
theorem o_nckI {cs : List D} : OpS P .nck [.ip cs] dst r K s = opsWp P r K (s.put dst (.ip cs)) := by simp [OpS, OcWp, zAc, opWp]
theorem p_nckI {cs : List D} : OpQ P .nck [.ip cs] dst rq K s = opsQ P rq K (s.put dst (.ip cs)) := by simp [OpQ, zAg, zAc, opWp]
theorem o_nckG {t m o : Nat} : OpS P .nck [.gp t m o] dst r K s = opsWp P r K (s.put dst (.gp t m o)) := by simp [OpS, OcWp, zAc, opWp]
theorem p_nckG {t m o : Nat} : OpQ P .nck [.gp t m o] dst rq K s = opsQ P rq K (s.put dst (.gp t m o)) := by simp [OpQ, zAg, zAc, opWp]
theorem o_pickT : OpS P .pick [.bool true, x, y] dst r K s = opsWp P r K (s.put dst x) := by simp [OpS, OcWp, zAc, opWp]
theorem o_pickF : OpS P .pick [.bool false, x, y] dst r K s = opsWp P r K (s.put dst y) := by simp [OpS, OcWp, zAc, opWp]
theorem p_pickT : OpQ P .pick [.bool true, x, y] dst rq K s = opsQ P rq K (s.put dst x) := by simp [OpQ, zAg, zAc, opWp]
theorem p_pickF : OpQ P .pick [.bool false, x, y] dst rq K s = opsQ P rq K (s.put dst y) := by simp [OpQ, zAg, zAc, opWp]
theorem o_add : OpS P (.bin .add) [.int k a, .int k b] dst r K s = opsWp P r K (s.put dst (.int k (k.wrap (a + b)))) := by simp [OpS, OcWp, zAc, opWp, binWp]
theorem o_sub : OpS P (.bin .sub) [.int k a, .int k b] dst r K s = opsWp P r K (s.put dst (.int k (k.wrap (a - b)))) := by simp [OpS, OcWp, zAc, opWp, binWp]
theorem o_mul : OpS P (.bin .mul) [.int k a, .int k b] dst r K s = opsWp P r K (s.put dst (.int k (k.wrap (a * b)))) := by simp [OpS, OcWp, zAc, opWp, binWp]
theorem o_quo : OpS P (.bin .quo) [.int k a, .int k b] dst r K s = (b ≠ 0 ∧ opsWp P r K (s.put dst (.int k (k.wrap (a.tdiv b))))) := by simp [OpS, OcWp, zAc, opWp, binWp]
theorem o_rem : OpS P (.bin .rem) [.int k a, .int k b] dst r K s = (b ≠ 0 ∧ opsWp P r K (s.put dst (.int k (a.tmod b)))) := by simp [OpS, OcWp, zAc, opWp, binWp]
theorem o_and : OpS P (.bin .and) [.int k a, .int k b] dst r K s = opsWp P r K (s.put dst (.int k (bitsV .and k a b))) := by simp [OpS, OcWp, zAc, opWp, binWp]
theorem o_or : OpS P (.bin .or) [.int k a, .int k b] dst r K s = opsWp P r K (s.put dst (.int k (bitsV .or k a b))) := by simp [OpS, OcWp, zAc, opWp, binWp]
theorem o_xor : OpS P (.bin .xor) [.int k a, .int k b] dst r K s = opsWp P r K (s.put dst (.int k (bitsV .xor k a b))) := by simp [OpS, OcWp, zAc, opWp, binWp]
theorem o_shl : OpS P (.bin .shl) [.int k a, .int k' b] dst r K s = (0 ≤ b ∧ opsWp P r K (s.put dst (.int k (k.wrap (a * 2 ^ (min b.toNat k.bits)))))) := by simp [OpS, OcWp, zAc, opWp, binWp]
theorem o_shr : OpS P (.bin .shr) [.int k a, .int k' b] dst r K s = (0 ≤ b ∧ opsWp P r K (s.put dst (.int k (a.fdiv (2 ^ (min b.toNat k.bits)))))) := by simp [OpS, OcWp, zAc, opWp, binWp]
theorem o_eql : OpS P (.bin .eql) [.int k a, .int k b] dst r K s = opsWp P r K (s.put dst (.bool (a == b))) := by simp [OpS, OcWp, zAc, opWp, binWp]
theorem o_neq : OpS P (.bin .neq) [.int k a, .int k b] dst r K s = opsWp P r K (s.put dst (.bool (a != b))) := by simp [OpS, OcWp, zAc, opWp, binWp]
theorem o_lss : OpS P (.bin .lss) [.int k a, .int k b] dst r K s = opsWp P r K (s.put dst (.bool (decide (a < b)))) := by simp [OpS, OcWp, zAc, opWp, binWp]
theorem o_leq : OpS P (.bin .leq) [.int k a, .int k b] dst r K s = opsWp P r K (s.put dst (.bool (decide (a ≤ b)))) := by simp [OpS, OcWp, zAc, opWp, binWp]
theorem o_gtr : OpS P (.bin .gtr) [.int k a, .int k b] dst r K s = opsWp P r K (s.put dst (.bool (decide (b < a)))) := by simp [OpS, OcWp, zAc, opWp, binWp]
theorem o_geq : OpS P (.bin .geq) [.int k a, .int k b] dst r K s = opsWp P r K (s.put dst (.bool (decide (b ≤ a)))) := by simp [OpS, OcWp, zAc, opWp, binWp]
theorem p_add : OpQ P (.bin .add) [.int k a, .int k b] dst rq K s = opsQ P rq K (s.put dst (.int k (k.wrap (a + b)))) := by simp [OpQ, zAg, zAc, opWp, binWp]
theorem p_sub : OpQ P (.bin .sub) [.int k a, .int k b] dst rq K s = opsQ P rq K (s.put dst (.int k (k.wrap (a - b)))) := by simp [OpQ, zAg, zAc, opWp, binWp]
theorem p_mul : OpQ P (.bin .mul) [.int k a, .int k b] dst rq K s = opsQ P rq K (s.put dst (.int k (k.wrap (a * b)))) := by simp [OpQ, zAg, zAc, opWp, binWp]
theorem p_quo : OpQ P (.bin .quo) [.int k a, .int k b] dst rq K s = (b ≠ 0 ∧ opsQ P rq K (s.put dst (.int k (k.wrap (a.tdiv b))))) := by simp [OpQ, zAg, zAc, opWp, binWp]
theorem p_rem : OpQ P (.bin .rem) [.int k a, .int k b] dst rq K s = (b ≠ 0 ∧ opsQ P rq K (s.put dst (.int k (a.tmod b)))) := by simp [OpQ, zAg, zAc, opWp, binWp]
theorem p_eql : OpQ P (.bin .eql) [.int k a, .int k b] dst rq K s = opsQ P rq K (s.put dst (.bool (a == b))) := by simp [OpQ, zAg, zAc, opWp, binWp]
theorem p_neq : OpQ P (.bin .neq) [.int k a, .int k b] dst rq K s = opsQ P rq K (s.put dst (.bool (a != b))) := by simp [OpQ, zAg, zAc, opWp, binWp]
theorem p_lss : OpQ P (.bin .lss) [.int k a, .int k b] dst rq K s = opsQ P rq K (s.put dst (.bool (decide (a < b)))) := by simp [OpQ, zAg, zAc, opWp, binWp]
theorem p_leq : OpQ P (.bin .leq) [.int k a, .int k b] dst rq K s = opsQ P rq K (s.put dst (.bool (decide (a ≤ b)))) := by simp [OpQ, zAg, zAc, opWp, binWp]
theorem p_gtr : OpQ P (.bin .gtr) [.int k a, .int k b] dst rq K s = opsQ P rq K (s.put dst (.bool (decide (b < a)))) := by simp [OpQ, zAg, zAc, opWp, binWp]
theorem p_geq : OpQ P (.bin .geq) [.int k a, .int k b] dst rq K s = opsQ P rq K (s.put dst (.bool (decide (b ≤ a)))) := by simp [OpQ, zAg, zAc, opWp, binWp]
theorem o_cat {u v : List UInt8} : OpS P (.bin .add) [.str u, .str v] dst r K s = (u.length + v.length ≤ 4611686018427387904 ∧ opsWp P r K (s.put dst (.str (u ++ v)))) := by simp [OpS, OcWp, zAc, opWp, binWp]
theorem o_seq {u v : List UInt8} : OpS P (.bin .eql) [.str u, .str v] dst r K s = opsWp P r K (s.put dst (.bool (u == v))) := by simp [OpS, OcWp, zAc, opWp, binWp]
theorem o_sne {u v : List UInt8} : OpS P (.bin .neq) [.str u, .str v] dst r K s = opsWp P r K (s.put dst (.bool (!(u == v)))) := by simp [OpS, OcWp, zAc, opWp, binWp]
theorem o_slt {u v : List UInt8} : OpS P (.bin .lss) [.str u, .str v] dst r K s = opsWp P r K (s.put dst (.bool (Op.bytesLess u v))) := by simp [OpS, OcWp, zAc, opWp, binWp]
theorem p_cat {u v : List UInt8} : OpQ P (.bin .add) [.str u, .str v] dst rq K s = (u.length + v.length ≤ 4611686018427387904 ∧ opsQ P rq K (s.put dst (.str (u ++ v)))) := by simp [OpQ, zAg, zAc, opWp, binWp]
theorem p_seq {u v : List UInt8} : OpQ P (.bin .eql) [.str u, .str v] dst rq K s = opsQ P rq K (s.put dst (.bool (u == v))) := by simp [OpQ, zAg, zAc, opWp, binWp]
theorem p_sne {u v : List UInt8} : OpQ P (.bin .neq) [.str u, .str v] dst rq K s = opsQ P rq K (s.put dst (.bool (!(u == v)))) := by simp [OpQ, zAg, zAc, opWp, binWp]
theorem p_slt {u v : List UInt8} : OpQ P (.bin .lss) [.str u, .str v] dst rq K s = opsQ P rq K (s.put dst (.bool (Op.bytesLess u v))) := by simp [OpQ, zAg, zAc, opWp, binWp]
theorem o_beqF {u v : Bool} : OpS P (.eqB false) [.bool u, .bool v] dst r K s = opsWp P r K (s.put dst (.bool (u == v))) := by simp [OpS, OcWp, zAc, opWp]
theorem o_beqT {u v : Bool} : OpS P (.eqB true) [.bool u, .bool v] dst r K s = opsWp P r K (s.put dst (.bool (!(u == v)))) := by simp [OpS, OcWp, zAc, opWp]
theorem p_beqF {u v : Bool} : OpQ P (.eqB false) [.bool u, .bool v] dst rq K s = opsQ P rq K (s.put dst (.bool (u == v))) := by simp [OpQ, zAg, zAc, opWp]
theorem p_beqT {u v : Bool} : OpQ P (.eqB true) [.bool u, .bool v] dst rq K s = opsQ P rq K (s.put dst (.bool (!(u == v)))) := by simp [OpQ, zAg, zAc, opWp]
theorem o_eqA {neg : Bool} {ks : List EK} {u v : List D} : OpS P (.eqA neg ks) [.agg u, .agg v] dst r K s = EqS P neg (eqDs ks u v) dst r K s := by simp [OpS, OcWp, zAc, opWp, EqS]
theorem p_eqA {neg : Bool} {ks : List EK} {u v : List D} : OpQ P (.eqA neg ks) [.agg u, .agg v] dst rq K s = EqQ P neg (eqDs ks u v) dst rq K s := by simp [OpQ, zAg, zAc, opWp, EqQ]
theorem q_eqSF {c : Bool} : EqS P false (some c) dst r K s = opsWp P r K (s.put dst (.bool c)) := by simp [EqS]
theorem q_eqST {c : Bool} : EqS P true (some c) dst r K s = opsWp P r K (s.put dst (.bool (!c))) := by simp [EqS]
theorem q_eqQF {c : Bool} : EqQ P false (some c) dst rq K s = opsQ P rq K (s.put dst (.bool c)) := by simp [EqQ]
theorem q_eqQT {c : Bool} : EqQ P true (some c) dst rq K s = opsQ P rq K (s.put dst (.bool (!c))) := by simp [EqQ]
theorem o_neg : OpS P (.un .neg) [.int k a] dst r K s = opsWp P r K (s.put dst (.int k (k.wrap (0 - a)))) := by simp [OpS, OcWp, zAc, opWp, unWp]
theorem p_neg : OpQ P (.un .neg) [.int k a] dst rq K s = opsQ P rq K (s.put dst (.int k (k.wrap (0 - a)))) := by simp [OpQ, zAg, zAc, opWp, unWp]
theorem o_not {c : Bool} : OpS P (.un .not) [.bool c] dst r K s = opsWp P r K (s.put dst (.bool (!c))) := by simp [OpS, OcWp, zAc, opWp, unWp]
theorem p_not {c : Bool} : OpQ P (.un .not) [.bool c] dst rq K s = opsQ P rq K (s.put dst (.bool (!c))) := by simp [OpQ, zAg, zAc, opWp, unWp]
theorem o_cvI : OpS P (.cvI k) [.int k' a] dst r K s = opsWp P r K (s.put dst (.int k (k.wrap a))) := by simp [OpS, OcWp, zAc, opWp]
theorem p_cvI : OpQ P (.cvI k) [.int k' a] dst rq K s = opsQ P rq K (s.put dst (.int k (k.wrap a))) := by simp [OpQ, zAg, zAc, opWp]
theorem o_newb {z : List D} : OpS P (.newb z) [] dst r K s = opsWp P r K ({ s with hp := { s.hp with H := s.hp.H ++ [Blk.cells z] } }.put dst (.ptr s.hp.H.length 0)) := by simp [OpS, OcWp, zAc, opWp]
theorem o_newT {z : List D} {bty : TypeId} : OpS P (.newT bty z) [] dst r K s = opsWp P r K ({ s with hp := { s.hp with H := s.hp.H ++ [Blk.tcells bty z] } }.put dst (.ptr s.hp.H.length 0)) := by simp [OpS, OcWp, zAc, opWp]
theorem o_eqN {neg : Bool} : OpS P (.eqN neg) [x, .lit (.slice none 0 0)] dst r K s = eqnWp neg x (fun d => opsWp P r K (s.put dst d)) := by simp [OpS, OcWp, zAc, opWp]
theorem n_nil {neg : Bool} {K : D → Prop} : eqnWp neg (.lit (.slice none 0 0)) K = K (.bool (!neg)) := rfl
theorem n_emp {neg : Bool} {own : Own} {K : D → Prop} : eqnWp neg (.slice [] own) K = ∀ b, K (.bool b) := rfl
theorem n_cons {neg : Bool} {y : D} {ys : List D} {own : Own} {K : D → Prop} : eqnWp neg (.slice (y :: ys) own) K = K (.bool neg) := rfl
theorem n_sl {neg : Bool} {b k off len cap : Nat} {K : D → Prop} : eqnWp neg (.sl b k off len cap) K = K (.bool neg) := rfl
theorem o_box : OpS P .box [x] dst r K s = (x.iV = true ∧ opsWp P r K ({ s with hp := { s.hp with H := s.hp.H ++ [Blk.cells x.cells] } }.put dst (.ptr s.hp.H.length 0))) := by simp [OpS, OcWp, zAc, opWp]
theorem o_bld {z : List D} {ps : List (Nat × Nat)} : OpS P (.bld z ps) ds dst r K s = BlS P (fillL z ps ds) dst r K s := by simp [OpS, OcWp, zAc, opWp, BlS]
theorem p_bld {z : List D} {ps : List (Nat × Nat)} : OpQ P (.bld z ps) ds dst rq K s = BlQ P (fillL z ps ds) dst rq K s := by simp [OpQ, zAg, zAc, opWp, BlQ]
theorem q_blS {c : List D} : BlS P (some c) dst r K s = opsWp P r K (s.put dst (.agg c)) := by simp [BlS]
theorem q_blQ {c : List D} : BlQ P (some c) dst rq K s = opsQ P rq K (s.put dst (.agg c)) := by simp [BlQ]
theorem o_ldp {ag : Bool} {n bk off : Nat} : OpS P (.ld ag n) [.ptr bk off] dst r K s = LdS P ag n (s.hp.H[bk]?) off dst r K s := by simp [OpS, OcWp, zAc, opWp, LdS]
theorem p_ldp {ag : Bool} {n bk off : Nat} : OpQ P (.ld ag n) [.ptr bk off] dst rq K s = LdQ P ag n (s.hp.H[bk]?) off dst rq K s := by simp [OpQ, zAg, zAc, opWp, LdQ]
theorem q_ldST {n off : Nat} {cs : List D} : LdS P true n (some (.cells cs)) off dst r K s = (off + n ≤ cs.length ∧ opsWp P r K (s.put dst (.agg ((cs.drop off).take n)))) := by simp [LdS, Blk.csq, Blk.putc]
theorem q_ldSTt {n off : Nat} {bty : TypeId} {cs : List D} : LdS P true n (some (.tcells bty cs)) off dst r K s = (off + n ≤ cs.length ∧ opsWp P r K (s.put dst (.agg ((cs.drop off).take n)))) := by simp [LdS, Blk.csq, Blk.putc]
theorem q_ldSF {n off : Nat} {cs : List D} : LdS P false n (some (.cells cs)) off dst r K s = (off + n ≤ cs.length ∧ opsWp P r K (s.put dst (cs.getD off .u0))) := by simp [LdS, Blk.csq, Blk.putc]
theorem q_ldSFt {n off : Nat} {bty : TypeId} {cs : List D} : LdS P false n (some (.tcells bty cs)) off dst r K s = (off + n ≤ cs.length ∧ opsWp P r K (s.put dst (cs.getD off .u0))) := by simp [LdS, Blk.csq, Blk.putc]
theorem q_ldQT {n off : Nat} {cs : List D} : LdQ P true n (some (.cells cs)) off dst rq K s = (off + n ≤ cs.length ∧ opsQ P rq K (s.put dst (.agg ((cs.drop off).take n)))) := by simp [LdQ, Blk.csq, Blk.putc]
theorem q_ldQTt {n off : Nat} {bty : TypeId} {cs : List D} : LdQ P true n (some (.tcells bty cs)) off dst rq K s = (off + n ≤ cs.length ∧ opsQ P rq K (s.put dst (.agg ((cs.drop off).take n)))) := by simp [LdQ, Blk.csq, Blk.putc]
theorem q_ldQF {n off : Nat} {cs : List D} : LdQ P false n (some (.cells cs)) off dst rq K s = (off + n ≤ cs.length ∧ opsQ P rq K (s.put dst (cs.getD off .u0))) := by simp [LdQ, Blk.csq, Blk.putc]
theorem q_ldQFt {n off : Nat} {bty : TypeId} {cs : List D} : LdQ P false n (some (.tcells bty cs)) off dst rq K s = (off + n ≤ cs.length ∧ opsQ P rq K (s.put dst (cs.getD off .u0))) := by simp [LdQ, Blk.csq, Blk.putc]
theorem o_ldiT {n : Nat} {cs : List D} : OpS P (.ld true n) [.ip cs] dst r K s = (0 < n ∧ n ≤ cs.length ∧ opsWp P r K (s.put dst (.agg (cs.take n)))) := by simp [OpS, OcWp, zAc, opWp]
theorem o_ldiF {n : Nat} {cs : List D} : OpS P (.ld false n) [.ip cs] dst r K s = (0 < n ∧ n ≤ cs.length ∧ opsWp P r K (s.put dst (cs.getD 0 .u0))) := by simp [OpS, OcWp, zAc, opWp]
theorem p_ldiT {n : Nat} {cs : List D} : OpQ P (.ld true n) [.ip cs] dst rq K s = (0 < n ∧ n ≤ cs.length ∧ opsQ P rq K (s.put dst (.agg (cs.take n)))) := by simp [OpQ, zAg, zAc, opWp]
theorem p_ldiF {n : Nat} {cs : List D} : OpQ P (.ld false n) [.ip cs] dst rq K s = (0 < n ∧ n ≤ cs.length ∧ opsQ P rq K (s.put dst (cs.getD 0 .u0))) := by simp [OpQ, zAg, zAc, opWp]
theorem o_stp {n bk off : Nat} : OpS P (.st n) [.ptr bk off, x] dst r K s = StS P n (s.hp.H[bk]?) bk off x dst r K s := by simp [OpS, OcWp, zAc, opWp, StS]
theorem q_stS {n bk off : Nat} {cs : List D} : StS P n (some (.cells cs)) bk off x dst r K s = (x.iV = true ∧ x.cells.length = n ∧ off + n ≤ cs.length ∧ opsWp P r K ({ s with hp := { s.hp with H := s.hp.H.set bk (.cells (setL cs off x.cells)) } }.put dst .skip)) := by simp [StS, Blk.csq, Blk.putc]
theorem q_stSt {n bk off : Nat} {bty : TypeId} {cs : List D} : StS P n (some (.tcells bty cs)) bk off x dst r K s = (x.iV = true ∧ x.cells.length = n ∧ off + n ≤ cs.length ∧ opsWp P r K ({ s with hp := { s.hp with H := s.hp.H.set bk (.tcells bty (setL cs off x.cells)) } }.put dst .skip)) := by simp [StS, Blk.csq, Blk.putc]
theorem o_fldp {off bk o : Nat} : OpS P (.fld off) [.ptr bk o] dst r K s = opsWp P r K (s.put dst (.ptr bk (o + off))) := by simp [OpS, OcWp, zAc, opWp]
theorem p_fldp {off bk o : Nat} : OpQ P (.fld off) [.ptr bk o] dst rq K s = opsQ P rq K (s.put dst (.ptr bk (o + off))) := by simp [OpQ, zAg, zAc, opWp]
theorem o_fldi {off : Nat} {cs : List D} : OpS P (.fld off) [.ip cs] dst r K s = opsWp P r K (s.put dst (.ip (cs.drop off))) := by simp [OpS, OcWp, zAc, opWp]
theorem p_fldi {off : Nat} {cs : List D} : OpQ P (.fld off) [.ip cs] dst rq K s = opsQ P rq K (s.put dst (.ip (cs.drop off))) := by simp [OpQ, zAg, zAc, opWp]
theorem o_fvT {off n : Nat} {cs : List D} : OpS P (.fv true off n) [.agg cs] dst r K s = (off + n ≤ cs.length ∧ opsWp P r K (s.put dst (.agg ((cs.drop off).take n)))) := by simp [OpS, OcWp, zAc, opWp]
theorem o_fvF {off n : Nat} {cs : List D} : OpS P (.fv false off n) [.agg cs] dst r K s = (off + n ≤ cs.length ∧ opsWp P r K (s.put dst (cs.getD off .u0))) := by simp [OpS, OcWp, zAc, opWp]
theorem p_fvT {off n : Nat} {cs : List D} : OpQ P (.fv true off n) [.agg cs] dst rq K s = (off + n ≤ cs.length ∧ opsQ P rq K (s.put dst (.agg ((cs.drop off).take n)))) := by simp [OpQ, zAg, zAc, opWp]
theorem p_fvF {off n : Nat} {cs : List D} : OpQ P (.fv false off n) [.agg cs] dst rq K s = (off + n ≤ cs.length ∧ opsQ P rq K (s.put dst (cs.getD off .u0))) := by simp [OpQ, zAg, zAc, opWp]
theorem o_ixaA {len n bk o : Nat} : OpS P (.ixaA len n) [.ptr bk o, .int k a] dst r K s = (0 ≤ a ∧ a < len ∧ opsWp P r K (s.put dst (.ptr bk (o + a.toNat * n)))) := by simp [OpS, OcWp, zAc, opWp]
theorem p_ixaA {len n bk o : Nat} : OpQ P (.ixaA len n) [.ptr bk o, .int k a] dst rq K s = (0 ≤ a ∧ a < len ∧ opsQ P rq K (s.put dst (.ptr bk (o + a.toNat * n)))) := by simp [OpQ, zAg, zAc, opWp]
theorem o_ixaS {n : Nat} {es : List D} {own : Own} : OpS P (.ixaS n) [.slice es own, .int k a] dst r K s = (0 ≤ a ∧ a < es.length ∧ (es.getD a.toNat .u0).iV = true ∧ (es.getD a.toNat .u0).cells.length = n ∧ opsWp P r K (s.put dst (.ip (es.getD a.toNat .u0).cells))) := by simp [OpS, OcWp, zAc, opWp]
theorem p_ixaS {n : Nat} {es : List D} {own : Own} : OpQ P (.ixaS n) [.slice es own, .int k a] dst rq K s = (0 ≤ a ∧ a < es.length ∧ (es.getD a.toNat .u0).iV = true ∧ (es.getD a.toNat .u0).cells.length = n ∧ opsQ P rq K (s.put dst (.ip (es.getD a.toNat .u0).cells))) := by simp [OpQ, zAg, zAc, opWp]
theorem o_ixvS {u : List UInt8} : OpS P .ixvS [.str u, .int k a] dst r K s = (0 ≤ a ∧ a < u.length ∧ opsWp P r K (s.put dst (.int .u8 (u.getD a.toNat 0).toNat))) := by simp [OpS, OcWp, zAc, opWp]
theorem p_ixvS {u : List UInt8} : OpQ P .ixvS [.str u, .int k a] dst rq K s = (0 ≤ a ∧ a < u.length ∧ opsQ P rq K (s.put dst (.int .u8 (u.getD a.toNat 0).toNat))) := by simp [OpQ, zAg, zAc, opWp]
theorem o_slTF {u : List UInt8} : OpS P (.slcS true false) [.str u, .int k a] dst r K s = (0 ≤ a ∧ a ≤ u.length ∧ opsWp P r K (s.put dst (.str (u.drop a.toNat)))) := by simp [OpS, OcWp, zAc, opWp]
theorem p_slTF {u : List UInt8} : OpQ P (.slcS true false) [.str u, .int k a] dst rq K s = (0 ≤ a ∧ a ≤ u.length ∧ opsQ P rq K (s.put dst (.str (u.drop a.toNat)))) := by simp [OpQ, zAg, zAc, opWp]
theorem o_slFT {u : List UInt8} : OpS P (.slcS false true) [.str u, .int k a] dst r K s = (0 ≤ a ∧ a ≤ u.length ∧ opsWp P r K (s.put dst (.str (u.take a.toNat)))) := by simp [OpS, OcWp, zAc, opWp]
theorem p_slFT {u : List UInt8} : OpQ P (.slcS false true) [.str u, .int k a] dst rq K s = (0 ≤ a ∧ a ≤ u.length ∧ opsQ P rq K (s.put dst (.str (u.take a.toNat)))) := by simp [OpQ, zAg, zAc, opWp]
theorem o_slTT {u : List UInt8} : OpS P (.slcS true true) [.str u, .int k a, .int k' b] dst r K s = (0 ≤ a ∧ a ≤ b ∧ b ≤ u.length ∧ opsWp P r K (s.put dst (.str ((u.take b.toNat).drop a.toNat)))) := by simp [OpS, OcWp, zAc, opWp]
theorem p_slTT {u : List UInt8} : OpQ P (.slcS true true) [.str u, .int k a, .int k' b] dst rq K s = (0 ≤ a ∧ a ≤ b ∧ b ≤ u.length ∧ opsQ P rq K (s.put dst (.str ((u.take b.toNat).drop a.toNat)))) := by simp [OpQ, zAg, zAc, opWp]
theorem o_ext {i : Nat} : OpS P (.ext i) [.tup ds] dst r K s = (i < ds.length ∧ opsWp P r K (s.put dst (ds.getD i .u0))) := by simp [OpS, OcWp, zAc, opWp]
theorem p_ext {i : Nat} : OpQ P (.ext i) [.tup ds] dst rq K s = (i < ds.length ∧ opsQ P rq K (s.put dst (ds.getD i .u0))) := by simp [OpQ, zAg, zAc, opWp]
theorem o_lenA {n : Nat} : OpS P (.lenA n) ds dst r K s = opsWp P r K (s.put dst (.int .i64 n)) := by simp [OpS, OcWp, zAc, opWp]
theorem p_lenA {n : Nat} : OpQ P (.lenA n) ds dst rq K s = opsQ P rq K (s.put dst (.int .i64 n)) := by simp [OpQ, zAg, zAc, opWp]
theorem o_lenS {u : List UInt8} : OpS P .lenS [.str u] dst r K s = opsWp P r K (s.put dst (.int .i64 u.length)) := by simp [OpS, OcWp, zAc, opWp]
theorem p_lenS {u : List UInt8} : OpQ P .lenS [.str u] dst rq K s = opsQ P rq K (s.put dst (.int .i64 u.length)) := by simp [OpQ, zAg, zAc, opWp]
theorem o_lenL {es : List D} {own : Own} : OpS P .lenL [.slice es own] dst r K s = opsWp P r K (s.put dst (.int .i64 es.length)) := by simp [OpS, OcWp, zAc, opWp]
theorem p_lenL {es : List D} {own : Own} : OpQ P .lenL [.slice es own] dst rq K s = opsQ P rq K (s.put dst (.int .i64 es.length)) := by simp [OpQ, zAg, zAc, opWp]
theorem o_lenN : OpS P .lenL [.lit (.slice none 0 0)] dst r K s = opsWp P r K (s.put dst (.int .i64 0)) := by simp [OpS, OcWp, zAc, opWp]
theorem p_lenN : OpQ P .lenL [.lit (.slice none 0 0)] dst rq K s = opsQ P rq K (s.put dst (.int .i64 0)) := by simp [OpQ, zAg, zAc, opWp]
theorem o_min : OpS P .minI (.int k a :: ds) dst r K s = MmS P k (foldI (fun a b => if b < a then b else a) k a ds) dst r K s := by simp [OpS, OcWp, zAc, opWp, mmWp, MmS]
theorem p_min : OpQ P .minI (.int k a :: ds) dst rq K s = MmQ P k (foldI (fun a b => if b < a then b else a) k a ds) dst rq K s := by simp [OpQ, zAg, zAc, opWp, mmWp, MmQ]
theorem o_minS {a b : List UInt8} : OpS P .minI [.str a, .str b] dst r K s = opsWp P r K (s.put dst (.str (if Op.bytesLess a b || a == b then a else b))) := by simp [OpS, OcWp, zAc, opWp, mmWp]
theorem o_maxS {a b : List UInt8} : OpS P .maxI [.str a, .str b] dst r K s = opsWp P r K (s.put dst (.str (if Op.bytesLess a b then b else a))) := by simp [OpS, OcWp, zAc, opWp, mmWp]
attribute [go_sem] o_minS o_maxS
theorem o_max : OpS P .maxI (.int k a :: ds) dst r K s = MmS P k (foldI (fun a b => if b > a then b else a) k a ds) dst r K s := by simp [OpS, OcWp, zAc, opWp, mmWp, MmS]
theorem p_max : OpQ P .maxI (.int k a :: ds) dst rq K s = MmQ P k (foldI (fun a b => if b > a then b else a) k a ds) dst rq K s := by simp [OpQ, zAg, zAc, opWp, mmWp, MmQ]
theorem q_mmS : MmS P k (some a) dst r K s = opsWp P r K (s.put dst (.int k a)) := by simp [MmS]
theorem q_mmQ : MmQ P k (some a) dst rq K s = opsQ P rq K (s.put dst (.int k a)) := by simp [MmQ]
theorem o_mkI {t : Nat} : OpS P (.mkI t) [x] dst r K s = opsWp P r K (s.put dst (.iface t x)) := by simp [OpS, OcWp, zAc, opWp]
theorem p_mkI {t : Nat} : OpQ P (.mkI t) [x] dst rq K s = opsQ P rq K (s.put dst (.iface t x)) := by simp [OpQ, zAg, zAc, opWp]
theorem o_mkF {f : Fn} {n : Nat} : OpS P (.mkF f n) ds dst r K s = opsWp P r K (s.put dst (.fn f (ds.take n) (ds.drop n))) := by simp [OpS, OcWp, zAc, opWp]
theorem p_mkF {f : Fn} {n : Nat} : OpQ P (.mkF f n) ds dst rq K s = opsQ P rq K (s.put dst (.fn f (ds.take n) (ds.drop n))) := by simp [OpQ, zAg, zAc, opWp]
theorem o_cvS {u : List UInt8} : OpS P .cvS [.str u] dst r K s = opsWp P r K (s.put dst (.str u)) := by simp [OpS, OcWp, zAc, opWp]
theorem p_cvS {u : List UInt8} : OpQ P .cvS [.str u] dst rq K s = opsQ P rq K (s.put dst (.str u)) := by simp [OpQ, zAg, zAc, opWp]
theorem o_lenM {bk n off len cap : Nat} : OpS P .lenL [.sl bk n off len cap] dst r K s = opsWp P r K (s.put dst (.int .i64 len)) := by simp [OpS, OcWp, zAc, opWp]
theorem p_lenM {bk n off len cap : Nat} : OpQ P .lenL [.sl bk n off len cap] dst rq K s = opsQ P rq K (s.put dst (.int .i64 len)) := by simp [OpQ, zAg, zAc, opWp]
theorem o_lenG {t n : Nat} : OpS P .lenL [.gs t n] dst r K s = opsWp P r K (s.put dst (.int .i64 n)) := by simp [OpS, OcWp, zAc, opWp]
theorem p_lenG {t n : Nat} : OpQ P .lenL [.gs t n] dst rq K s = opsQ P rq K (s.put dst (.int .i64 n)) := by simp [OpQ, zAg, zAc, opWp]
theorem o_ixaM {n bk n' off len cap : Nat} : OpS P (.ixaS n) [.sl bk n' off len cap, .int k a] dst r K s = (0 ≤ a ∧ a < len ∧ len ≤ cap ∧ n' = n ∧ opsWp P r K (s.put dst (.ptr bk (off + a.toNat * n)))) := by simp [OpS, OcWp, zAc, opWp]
theorem p_ixaM {n bk n' off len cap : Nat} : OpQ P (.ixaS n) [.sl bk n' off len cap, .int k a] dst rq K s = (0 ≤ a ∧ a < len ∧ len ≤ cap ∧ n' = n ∧ opsQ P rq K (s.put dst (.ptr bk (off + a.toNat * n)))) := by simp [OpQ, zAg, zAc, opWp]
theorem o_ixaG {n t m : Nat} : OpS P (.ixaS n) [.gs t m, .int k a] dst r K s = (0 ≤ a ∧ a < m ∧ opsWp P r K (s.put dst (.gp t m (a.toNat * n)))) := by simp [OpS, OcWp, zAc, opWp]
theorem p_ixaG {n t m : Nat} : OpQ P (.ixaS n) [.gs t m, .int k a] dst rq K s = (0 ≤ a ∧ a < m ∧ opsQ P rq K (s.put dst (.gp t m (a.toNat * n)))) := by simp [OpQ, zAg, zAc, opWp]
theorem o_fldg {off t m o : Nat} : OpS P (.fld off) [.gp t m o] dst r K s = opsWp P r K (s.put dst (.gp t m (o + off))) := by simp [OpS, OcWp, zAc, opWp]
theorem p_fldg {off t m o : Nat} : OpQ P (.fld off) [.gp t m o] dst rq K s = opsQ P rq K (s.put dst (.gp t m (o + off))) := by simp [OpQ, zAg, zAc, opWp]
theorem o_rng {u : List UInt8} : OpS P .rngS [.str u] dst r K s = opsWp P r K ({ s with hp := { s.hp with H := s.hp.H ++ [Blk.siter u 0] } }.put dst (.ptr s.hp.H.length 0)) := by simp [OpS, OcWp, zAc, opWp]
theorem o_ldg {ag : Bool} {n t m off : Nat} : OpS P (.ld ag n) [.gp t m off] dst r K s = LgS P ag n (s.hp.tk[t]?) m off dst r K s := by simp [OpS, OcWp, zAc, opWp, LgS]
theorem p_ldg {ag : Bool} {n t m off : Nat} : OpQ P (.ld ag n) [.gp t m off] dst rq K s = LgQ P ag n (s.hp.tk[t]?) m off dst rq K s := by simp [OpQ, zAg, zAc, opWp, LgQ]
theorem q_lgST {n k' m off : Nat} {cs : List D} : LgS P true n (some (.chg k' cs)) m off dst r K s = (cs.length = m * k' ∧ off + n ≤ cs.length ∧ opsWp P r K (s.put dst (.agg ((cs.drop off).take n)))) := by
  simp only [LgS, Option.some.injEq, Tv.chg.injEq, if_true]
  exact propext ⟨fun ⟨_, _, ⟨h1, h2⟩, h3, h4, h5⟩ => by subst h1; subst h2; exact ⟨h3, h4, h5⟩, fun ⟨h3, h4, h5⟩ => ⟨_, _, ⟨rfl, rfl⟩, h3, h4, h5⟩⟩
theorem q_lgSF {n k' m off : Nat} {cs : List D} : LgS P false n (some (.chg k' cs)) m off dst r K s = (cs.length = m * k' ∧ off + n ≤ cs.length ∧ opsWp P r K (s.put dst (cs.getD off .u0))) := by
  simp only [LgS, Option.some.injEq, Tv.chg.injEq, Bool.false_eq_true, if_false]
  exact propext ⟨fun ⟨_, _, ⟨h1, h2⟩, h3, h4, h5⟩ => by subst h1; subst h2; exact ⟨h3, h4, h5⟩, fun ⟨h3, h4, h5⟩ => ⟨_, _, ⟨rfl, rfl⟩, h3, h4, h5⟩⟩
theorem q_lgQT {n k' m off : Nat} {cs : List D} : LgQ P true n (some (.chg k' cs)) m off dst rq K s = (cs.length = m * k' ∧ off + n ≤ cs.length ∧ opsQ P rq K (s.put dst (.agg ((cs.drop off).take n)))) := by
  simp only [LgQ, Option.some.injEq, Tv.chg.injEq, if_true]
  exact propext ⟨fun ⟨_, _, ⟨h1, h2⟩, h3, h4, h5⟩ => by subst h1; subst h2; exact ⟨h3, h4, h5⟩, fun ⟨h3, h4, h5⟩ => ⟨_, _, ⟨rfl, rfl⟩, h3, h4, h5⟩⟩
theorem q_lgQF {n k' m off : Nat} {cs : List D} : LgQ P false n (some (.chg k' cs)) m off dst rq K s = (cs.length = m * k' ∧ off + n ≤ cs.length ∧ opsQ P rq K (s.put dst (cs.getD off .u0))) := by
  simp only [LgQ, Option.some.injEq, Tv.chg.injEq, Bool.false_eq_true, if_false]
  exact propext ⟨fun ⟨_, _, ⟨h1, h2⟩, h3, h4, h5⟩ => by subst h1; subst h2; exact ⟨h3, h4, h5⟩, fun ⟨h3, h4, h5⟩ => ⟨_, _, ⟨rfl, rfl⟩, h3, h4, h5⟩⟩
theorem o_stg {n t m off : Nat} : OpS P (.st n) [.gp t m off, x] dst r K s = SgS P n (s.hp.tk[t]?) t m off x dst r K s := by simp [OpS, OcWp, zAc, opWp, SgS]
theorem q_sgS {n t m off k' : Nat} {cs : List D} : SgS P n (some (.chg k' cs)) t m off x dst r K s = (cs.length = m * k' ∧ x.iV = true ∧ x.cells.length = n ∧ off + n ≤ cs.length ∧ opsWp P r K ({ s with hp := { s.hp with tk := s.hp.tk.set t (.chg k' (setL cs off x.cells)) } }.put dst .skip)) := by
  simp only [SgS, Option.some.injEq, Tv.chg.injEq]
  exact propext ⟨fun ⟨_, _, ⟨h1, h2⟩, h3⟩ => by subst h1; subst h2; exact h3, fun h3 => ⟨_, _, ⟨rfl, rfl⟩, h3⟩⟩
section
variable {es xs : List D} {n bytes : Nat} {ety : TypeId}
theorem s_bsl (he : zAa n ds = true) (hl : ds.length * n ≤ 16777216) (hc : D.cL ds = true) (h : opsWp P r K (s.put dst (.slice (D.erL ds) .full))) : OpS P (.bsl n) ds dst r K s := by
  simp only [OpS, OcWp, zAc, Bool.false_eq_true, if_false, opWp]; exact ⟨he, hl, .inl ⟨hc, h⟩⟩
theorem zA5 {t : Nat} (he : zBn s.hp n x = some es) (hK : zAa n es = true) (hc : D.cL es = true) (hr : zAv (xs.length + es.length) bytes) (hV : s.hp.tk[t]? = some (.per n xs.length))
    (h : opsWp P r K ({ s with hp := { s.hp with tk := s.hp.tk.set t (.per n (xs.length + es.length)) } }.put dst (.slice (xs ++ D.erL es) (.tok t)))) : OpS P (.app n bytes ety) [.slice xs (.tok t), x] dst r K s := by
  simp only [OpS, OcWp, zAc, Bool.false_eq_true, if_false, opWp]; exact ⟨es, he, hK, hr, hc, hV, h⟩
theorem zA6 {t m : Nat} {cs : List D} (he : zBn s.hp n x = some es) (hK : zAa n es = true) (hr : zAv (m + es.length) bytes) (hV : s.hp.tk[t]? = some (.chg n cs)) (hl : cs.length = m * n)
    (h : opsWp P r K ({ s with hp := { s.hp with tk := s.hp.tk.set t (.chg n (cs ++ flatD es)) } }.put dst (.gs t (m + es.length)))) : OpS P (.app n bytes ety) [.gs t m, x] dst r K s := by
  simp only [OpS, OcWp, zAc, Bool.false_eq_true, if_false, opWp]; exact ⟨es, he, hK, hr, .inl ⟨cs, hV, hl, h⟩⟩
theorem zBb (he : zBn s.hp n x = some es) (hK : zAa n es = true) (hc : D.cL es = true) (hr : zAv es.length bytes) (h : opsWp P r K (s.put dst (.slice (D.erL es) .no))) : OpS P (.app n bytes ety) [.lit (.slice none 0 0), x] dst r K s := by
  simp only [OpS, OcWp, zAc, Bool.false_eq_true, if_false, opWp]; exact ⟨es, he, hK, hr, .inl ⟨hc, .inl h⟩⟩
theorem s_app0T (he : zBn s.hp n x = some es) (hK : zAa n es = true) (hc : D.cL es = true) (hr : zAv es.length bytes) (h : opsWp P r K ({ s with hp := { s.hp with tk := s.hp.tk ++ [Tv.per n es.length] } }.put dst (.slice (D.erL es) (.tok s.hp.tk.length)))) : OpS P (.app n bytes ety) [.lit (.slice none 0 0), x] dst r K s := by
  simp only [OpS, OcWp, zAc, Bool.false_eq_true, if_false, opWp]; exact ⟨es, he, hK, hr, .inl ⟨hc, .inr h⟩⟩
theorem zBa (he : zBn s.hp n x = some es) (hK : zAa n es = true) (hc : D.cL es = true) (hr : zAv (xs.length + es.length) bytes) (hx : zAa n xs = true) (hn : 0 < n) (h : opsWp P r K (s.put dst (.slice (xs ++ D.erL es) .no))) : OpS P (.app n bytes ety) [.slice xs .full, x] dst r K s := by
  simp only [OpS, OcWp, zAc, Bool.false_eq_true, if_false, opWp]; exact ⟨es, he, hK, hr, .inl ⟨hc, hx, hn, .inl h⟩⟩
theorem s_appFT (he : zBn s.hp n x = some es) (hK : zAa n es = true) (hc : D.cL es = true) (hr : zAv (xs.length + es.length) bytes) (hx : zAa n xs = true) (hn : 0 < n) (h : opsWp P r K ({ s with hp := { s.hp with tk := s.hp.tk ++ [Tv.per n (xs.length + es.length)] } }.put dst (.slice (xs ++ D.erL es) (.tok s.hp.tk.length)))) : OpS P (.app n bytes ety) [.slice xs .full, x] dst r K s := by
  simp only [OpS, OcWp, zAc, Bool.false_eq_true, if_false, opWp]; exact ⟨es, he, hK, hr, .inl ⟨hc, hx, hn, .inr h⟩⟩
theorem s_slFF {own : Own} (hx : zAa n xs = true) (h : opsWp P r K (s.put dst (.slice xs .no))) : OpS P (.slcL n false false) [.slice xs own] dst r K s := by
  simp only [OpS, OcWp, zAc, Bool.false_eq_true, if_false, opWp]
  exact ⟨0, xs.length, ⟨rfl, rfl⟩, by omega, by omega, by simp [dlen], hx, by simpa using h⟩
theorem s_slTF {own : Own} (h0 : 0 ≤ a) (h1 : a ≤ xs.length) (hx : zAa n xs = true) (h : opsWp P r K (s.put dst (.slice (xs.drop a.toNat) .no))) : OpS P (.slcL n true false) [.slice xs own, .int k a] dst r K s := by
  simp only [OpS, OcWp, zAc, Bool.false_eq_true, if_false, opWp]
  exact ⟨a, xs.length, ⟨rfl, rfl⟩, h0, h1, by simp [dlen], hx, by simpa using h⟩
theorem s_slFT {own : Own} (h0 : 0 ≤ a) (h1 : a ≤ xs.length) (hx : zAa n xs = true) (h : opsWp P r K (s.put dst (.slice (xs.take a.toNat) .no))) : OpS P (.slcL n false true) [.slice xs own, .int k a] dst r K s := by
  simp only [OpS, OcWp, zAc, Bool.false_eq_true, if_false, opWp]
  exact ⟨0, a, ⟨rfl, rfl⟩, by omega, h0, by simpa [dlen] using h1, hx, by simpa using h⟩
theorem s_slTT {own : Own} (h0 : 0 ≤ a) (h1 : a ≤ b) (h2 : b ≤ xs.length) (hx : zAa n xs = true) (h : opsWp P r K (s.put dst (.slice ((xs.take b.toNat).drop a.toNat) .no))) : OpS P (.slcL n true true) [.slice xs own, .int k a, .int k' b] dst r K s := by
  simp only [OpS, OcWp, zAc, Bool.false_eq_true, if_false, opWp]
  exact ⟨a, b, ⟨rfl, rfl⟩, h0, h1, by simpa [dlen] using h2, hx, h⟩
theorem s_smTF {bk off len cap : Nat} (h0 : 0 ≤ a) (h1 : a ≤ len) (hc : len ≤ cap) (h : opsWp P r K (s.put dst (.sl bk n (off + a.toNat * n) (len - a.toNat) (cap - a.toNat)))) : OpS P (.slcL n true false) [.sl bk n off len cap, .int k a] dst r K s := by
  simp only [OpS, OcWp, zAc, Bool.false_eq_true, if_false, opWp]
  exact ⟨a, len, ⟨rfl, rfl⟩, h0, h1, by simp [dlen], trivial, hc, by simpa using h⟩
theorem s_smFT {bk off len cap : Nat} (h0 : 0 ≤ a) (h1 : a ≤ len) (hc : len ≤ cap) (h : opsWp P r K (s.put dst (.sl bk n off a.toNat cap))) : OpS P (.slcL n false true) [.sl bk n off len cap, .int k a] dst r K s := by
  simp only [OpS, OcWp, zAc, Bool.false_eq_true, if_false, opWp]
  exact ⟨0, a, ⟨rfl, rfl⟩, by omega, h0, by simpa [dlen] using h1, trivial, hc, by simpa using h⟩
theorem s_smTT {bk off len cap : Nat} (h0 : 0 ≤ a) (h1 : a ≤ b) (h2 : b ≤ len) (hc : len ≤ cap) (h : opsWp P r K (s.put dst (.sl bk n (off + a.toNat * n) (b.toNat - a.toNat) (cap - a.toNat)))) : OpS P (.slcL n true true) [.sl bk n off len cap, .int k a, .int k' b] dst r K s := by
  simp only [OpS, OcWp, zAc, Bool.false_eq_true, if_false, opWp]
  exact ⟨a, b, ⟨rfl, rfl⟩, h0, h1, by simpa [dlen] using h2, trivial, hc, h⟩
theorem s_clr {bk off len cap : Nat} {cs z : List D} (h1 : s.hp.H[bk]? = some (.cells cs)) (h2 : off + len * n ≤ cs.length) (h3 : len ≤ cap)
    (h : opsWp P r K ({ s with hp := { s.hp with H := s.hp.H.set bk (.cells (setL cs off (zeros z len))) } }.put dst (.tup []))) : OpS P (.clr n z) [.sl bk n off len cap] dst r K s := by
  simp only [OpS, OcWp, zAc, Bool.false_eq_true, if_false, opWp, clrWp]; exact ⟨cs, h1, trivial, h3, h2, h⟩
theorem zAt : OpS P .newM [] dst r K s = opsWp P r K ({ s with hp := { s.hp with H := s.hp.H ++ [Blk.map [] 0] } }.put dst (.mp s.hp.H.length)) := by simp [OpS, OcWp, zAc, opWp]
theorem s_mpu {kd : MK} {bk clock : Nat} {es : List (D × D × Nat)} {k v : D} {B : Blk} (h1 : s.hp.H[bk]? = some (.map es clock)) (hk : keyOk kd k = true) (ha : (es.all fun e => keyOk kd e.1) = true) (hp : putM es clock k v = B)
    (h : opsWp P r K ({ s with hp := { s.hp with H := s.hp.H.set bk B } }.put dst .skip)) : OpS P (.mpu kd) [.mp bk, k, v] dst r K s := by
  subst hp
  simp only [OpS, OcWp, zAc, Bool.false_eq_true, if_false, opWp]; exact ⟨es, clock, h1, hk, ha, h⟩
theorem s_mdl {kd : MK} {bk clock : Nat} {es : List (D × D × Nat)} {k : D} {B : Blk} (h1 : s.hp.H[bk]? = some (.map es clock)) (hk : keyOk kd k = true) (ha : (es.all fun e => keyOk kd e.1) = true) (hp : delM es clock k = B)
    (h : opsWp P r K ({ s with hp := { s.hp with H := s.hp.H.set bk B } }.put dst (.tup []))) : OpS P (.mdl kd) [.mp bk, k] dst r K s := by
  subst hp
  simp only [OpS, OcWp, zAc, Bool.false_eq_true, if_false, opWp]; exact ⟨es, clock, h1, hk, ha, h⟩
theorem zAl {kd : MK} {ok : Bool} {zero : D} {bk clock i : Nat} {es : List (D × D × Nat)} {k v : D} (h1 : s.hp.H[bk]? = some (.map es clock)) (hk : keyOk kd k = true) (ha : (es.all fun e => keyOk kd e.1) = true) (hf : findM k es 0 = some (i, v))
    (h : opsWp P r K (s.put dst (if ok then .tup [v, .bool true] else v))) : OpS P (.lkp kd ok zero) [.mp bk, k] dst r K s := by
  simp only [OpS, OcWp, zAc, Bool.false_eq_true, if_false, opWp]
  refine ⟨es, clock, h1, hk, ha, fun j x hx => ?_, fun hx => ?_⟩
  · rw [hf] at hx; cases hx; exact h
  · rw [hf] at hx; cases hx
theorem zAm {kd : MK} {ok : Bool} {zero : D} {bk clock : Nat} {es : List (D × D × Nat)} {k : D} (h1 : s.hp.H[bk]? = some (.map es clock)) (hk : keyOk kd k = true) (ha : (es.all fun e => keyOk kd e.1) = true) (hf : findM k es 0 = none)
    (h : opsWp P r K (s.put dst (if ok then .tup [zero, .bool false] else zero))) : OpS P (.lkp kd ok zero) [.mp bk, k] dst r K s := by
  simp only [OpS, OcWp, zAc, Bool.false_eq_true, if_false, opWp]
  refine ⟨es, clock, h1, hk, ha, fun j x hx => ?_, fun hx => ?_⟩
  · rw [hf] at hx; cases hx
  · exact h
theorem zCi {bk clock : Nat} {es : List (D × D × Nat)} (h1 : s.hp.H[bk]? = some (.map es clock))
    (h : opsWp P r K ({ s with hp := { s.hp with H := s.hp.H ++ [Blk.miter bk clock [] clock] } }.put dst (.ptr s.hp.H.length 0))) : OpS P .rngM [.mp bk] dst r K s := by
  simp only [OpS, OcWp, zAc, Bool.false_eq_true, if_false, opWp]; exact ⟨es, clock, h1, h⟩
theorem s_nxtM {bk m since st clock : Nat} {seen : List Nat} {es : List (D × D × Nat)} (h0 : s.hp.H[bk]? = some (.miter m since seen st)) (h1 : s.hp.H[m]? = some (.map es clock)) (h2 : ∀ e ∈ es, e.2.2 < since) (h3 : since ≤ st)
    (h4 : ∀ e ∈ es, e.2.2 ∉ seen → opsWp P r K ({ s with hp := { s.hp with H := s.hp.H.set bk (.miter m since (seen ++ [e.2.2]) clock) } }.put dst (.tup [.bool true, e.1, e.2.1])))
    (h5 : (∀ e ∈ es, e.2.2 ∈ seen) → opsWp P r K (s.put dst (.tup [.bool false]))) : OpS P .nxtM [.ptr bk 0] dst r K s := by
  simp only [OpS, OcWp, zAc, Bool.false_eq_true, if_false, opWp]; exact ⟨m, since, seen, st, es, clock, h0, h1, h2, h3, h4, h5⟩
theorem s_ent {bk m since clock nb : Nat} {seen : List Nat} {es : List (D × D × Nat)} {k v : D} (h0 : s.hp.H[bk]? = some (.miter m since (seen ++ [nb]) clock)) (h1 : s.hp.H[m]? = some (.map es clock)) (h2 : (es.map (·.2.2)).Nodup) (h3 : (k, v, nb) ∈ es)
    (h : opsWp P r K (s.put dst (.tup [k, v]))) : OpS P .ent [.ptr bk 0] dst r K s := by
  simp only [OpS, OcWp, zAc, Bool.false_eq_true, if_false, opWp]; exact ⟨m, since, seen, es, clock, nb, k, v, h0, h1, h2, h3, h⟩
theorem o_eff {f : FuncId} {first cap ds' : List D} {hp0 : Hp} {R : D → Hp → Prop} (bl tl : List Nat) (h : Eff P f ds' hp0 R) (hs : SelOk s.hp bl tl) (hd : D.rnL (posF bl) (posF tl) (first ++ ds ++ cap) = ds') (hh : s.hp.sel bl tl = hp0)
    (hk : ∀ d hp1, R d hp1 → opsWp P r K ({ s with hp := s.hp.back bl tl hp1 }.put dst (d.rn (bakF bl s.hp.H.length) (bakF tl s.hp.tk.length)))) : OpS P .call (.fn (.func f) first cap :: ds) dst r K s := by
  unfold OpS OcWp
  simp only [zAc, if_true]
  exact call_eff bl tl h hs hd hh hk
end
theorem zAb {f : FuncId} {first cap : List D} {d : D} {ds' : List D} (h : Pur P f ds' d) (he : D.erL (first ++ ds ++ cap) = ds') (hc : D.cL (first ++ ds ++ cap) = true) (hk : opsWp P r K (s.put dst d)) :
    OpS P .call (.fn (.func f) first cap :: ds) dst r K s := by
  unfold OpS OcWp
  simp only [zAc, if_true]
  exact zF6 hc (he ▸ h) hk
theorem zAf {f : FuncId} {first cap : List D} {d : D} {ds' : List D} (h : Pur P f ds' d) (he : D.erL (first ++ ds ++ cap) = ds') (hc : D.cL (first ++ ds ++ cap) = true) (hk : opsQ P rq K (s.put dst d)) :
    OpC P .call (.fn (.func f) first cap :: ds) dst rq K s := by
  unfold OpC detWp OcWp
  simp only [zAc, if_true]
  exact ⟨d, s.hp, zF6 hc (he ▸ h) ⟨rfl, rfl⟩, hk⟩
theorem zAe {f : FuncId} {first cap : List D} {d : D} {ds' : List D} (h : Pur P f ds' d) (he : D.erL (first ++ ds ++ cap) = ds') (hc : D.cL (first ++ ds ++ cap) = true) (hk : opsQ P rq K (s.put dst d)) :
    OpQ P .call (.fn (.func f) first cap :: ds) dst rq K s := by
  unfold OpQ zAg CallQ
  simp only [zAc, if_true]
  exact ⟨d, zF6 hc (he ▸ h) ⟨rfl, rfl⟩, hk⟩
end
section
variable {P : Mod} {oc : OC} {args : List Opd} {dst : Dst} {r : List RO} {rq : List (RO × Bool)} {qf : Bool} {K : St → Prop} {s : St} {g : Opd} {want : Bool} {C : Cfg} {Q : Ex → St → Prop} {x y : RC}
def CdS (C : Cfg) (b : D) (g : Opd) (x y : RC) (Q : Ex → St → Prop) (s : St) : Prop :=
  match b with
  | .bool t => (t = true → SWp C x Q (s.setO g (.bool true))) ∧ (t = false → SWp C y Q (s.setO g (.bool false)))
  | _ => False
theorem swp_cd (h : CdS C (s.get g) g x y Q s) : SWp C (.cond g x y) Q s := by
  unfold CdS at h
  split at h
  · rename_i t ht; exact swp_cond ht h.1 h.2
  · exact h.elim
theorem e_cdT : CdS C (.bool true) g x y Q s = SWp C x Q (s.setO g (.bool true)) := by simp [CdS]
theorem e_cdF : CdS C (.bool false) g x y Q s = SWp C y Q (s.setO g (.bool false)) := by simp [CdS]
theorem cd_split {c : Bool} (h1 : c = true → SWp C x Q (s.setO g (.bool true))) (h2 : c = false → SWp C y Q (s.setO g (.bool false))) : CdS C (.bool c) g x y Q s := ⟨h1, h2⟩
theorem rr_slot {o : Opd} {K : D → Prop} : rrWp (.slot o) s K = K (s.get o) := propext Iff.rfl
def RcS (ag : Bool) (n : Nat) (p : D) (H : List Blk) (K : D → Prop) : Prop :=
  match p with
  | .ptr b off => ∃ cs, H[b]? = some (.cells cs) ∧ off + n ≤ cs.length ∧ K (if ag then .agg ((cs.drop off).take n) else cs.getD off .u0)
  | _ => False
theorem rr_cell {o : Opd} {ag : Bool} {n : Nat} {K : D → Prop} : rrWp (.cell o ag n) s K = RcS ag n (s.get o) s.hp.H K := by
  unfold rrWp RcS; rfl
def RcB (ag : Bool) (n off : Nat) (B : Option Blk) (K : D → Prop) : Prop := ∃ cs, B = some (.cells cs) ∧ off + n ≤ cs.length ∧ K (if ag then .agg ((cs.drop off).take n) else cs.getD off .u0)
theorem rr_ptr {ag : Bool} {n b off : Nat} {H : List Blk} {K : D → Prop} : RcS ag n (.ptr b off) H K = RcB ag n off (H[b]?) K := propext Iff.rfl
theorem rr_T {n off : Nat} {cs : List D} {K : D → Prop} : RcB true n off (some (.cells cs)) K = (off + n ≤ cs.length ∧ K (.agg ((cs.drop off).take n))) := by simp [RcB]
theorem rr_F {n off : Nat} {cs : List D} {K : D → Prop} : RcB false n off (some (.cells cs)) K = (off + n ≤ cs.length ∧ K (cs.getD off .u0)) := by simp [RcB]
theorem rs_nil {K : List D → Prop} : rrsWp [] s K = K [] := propext Iff.rfl
theorem rs_cons {r : RR} {rs : List RR} {K : List D → Prop} : rrsWp (r :: rs) s K = rrWp r s fun d => rrsWp rs s fun ds => K (d :: ds) := propext Iff.rfl
end
theorem w64 {n : Int} (h1 : -9223372036854775808 ≤ n) (h2 : n ≤ 9223372036854775807) : IntKind.i64.wrap n = n := by
  rw [IntKind.wrap_i64]
  omega
attribute [go_sem] o_cvS p_cvS o_lenM p_lenM o_lenG p_lenG o_ixaM p_ixaM o_ixaG p_ixaG o_fldg p_fldg o_rng o_ldg p_ldg q_lgST q_lgSF q_lgQT q_lgQF o_stg q_sgS
attribute [go_sem] f_stepD zAc qOp
attribute [go_sem] decide_true decide_false o_eqN n_nil n_emp n_cons n_sl e_nil e_step e_guard f_nil f_step f_guard g_tt g_tf g_ft g_ff g_sk h_tt h_tf h_ft h_ff h_sk o_mv p_mv o_pickT o_pickF p_pickT p_pickF o_add o_sub o_mul o_quo o_rem o_and o_or o_xor o_shl o_shr o_eql o_neq o_lss o_leq o_gtr o_geq p_add p_sub p_mul p_quo p_rem p_eql p_neq p_lss p_leq p_gtr p_geq o_cat o_seq o_sne o_slt p_cat p_seq p_sne p_slt o_beqF o_beqT p_beqF p_beqT o_eqA p_eqA q_eqSF q_eqST q_eqQF q_eqQT o_neg p_neg o_not p_not o_cvI p_cvI o_newb o_box o_bld p_bld q_blS q_blQ o_ldp p_ldp o_nckP p_nckP o_nckI p_nckI o_nckG p_nckG q_ldST q_ldSTt q_ldSFt q_ldQTt q_ldQFt q_stSt o_newT q_ldSF q_ldQT q_ldQF o_ldiT o_ldiF p_ldiT p_ldiF o_stp q_stS o_fldp p_fldp o_fldi p_fldi o_fvT o_fvF p_fvT p_fvF o_ixaA p_ixaA o_ixaS p_ixaS o_ixvS p_ixvS o_slTF p_slTF o_slFT p_slFT o_slTT p_slTT o_ext p_ext o_lenA p_lenA o_lenS p_lenS o_lenL p_lenL o_lenN p_lenN o_min p_min o_max p_max q_mmS q_mmQ o_mkI p_mkI o_mkF p_mkF e_cdT e_cdF rr_slot rr_cell rr_ptr rr_T rr_F rs_nil rs_cons
attribute [go_sem] St.get St.put St.setO setK St.done lk List.map_cons List.map_nil List.getD_cons_zero List.getD_cons_succ List.set_cons_zero List.set_cons_succ List.getElem?_cons_zero List.getElem?_cons_succ List.length_cons List.length_nil List.nil_append List.cons_append List.drop_zero List.drop_succ_cons List.take_zero List.take_succ_cons List.drop_nil List.take_nil D.iV D.cells fillL setL eqDs eqD foldI Nat.succ_eq_add_one Nat.le_refl Nat.zero_add Nat.add_zero Int.toNat_natCast ite_true ite_false ne_eq not_false_eq_true not_true_eq_false true_and and_true and_self Bool.false_eq_true Bool.not_true Bool.not_false Bool.and_true Bool.true_and decide_eq_true_eq zBd D.closed D.cL D.er D.erL D.rn D.rnL Own.rn Blk.rn Tv.rn Blk.rnL Tv.rnL Hp.back Hp.sel putAt posF bakF idx flatD zeros
section
variable {P P' : Mod} {C : Cfg} {oc : OC} {args : List Opd} {dst : Dst} {r : List RO} {rq : List (RO × Bool)} {qf : Bool} {K : St → Prop} {s s' : St} {g : Opd} {want ag neg : Bool} {x y : RC} {b b' : D} {ds ds' : List D} {B B' : Option Blk} {off off' n bk bk' : Nat} {v v' : D} {k : IntKind} {Q : Ex → St → Prop}
/- Where simp looks: at the program, the values and the state; never at the code that is still to come. -/
@[congr] theorem cg_ops (h1 : P = P') (h2 : s = s') : opsWp P r K s = opsWp P' r K s' := by rw [h1, h2]
@[congr] theorem cg_opsQ (h1 : P = P') (h2 : s = s') : opsQ P rq K s = opsQ P' rq K s' := by rw [h1, h2]
@[congr] theorem cg_OpS (h1 : P = P') (h2 : ds = ds') (h3 : s = s') : OpS P oc ds dst r K s = OpS P' oc ds' dst r K s' := by rw [h1, h2, h3]
@[congr] theorem cg_OpC (h1 : P = P') (h2 : ds = ds') (h3 : s = s') : OpC P oc ds dst rq K s = OpC P' oc ds' dst rq K s' := by rw [h1, h2, h3]
@[congr] theorem cg_OpQ (h1 : P = P') (h2 : ds = ds') (h3 : s = s') : OpQ P oc ds dst rq K s = OpQ P' oc ds' dst rq K s' := by rw [h1, h2, h3]
@[congr] theorem cg_GdS (h1 : P = P') (h2 : b = b') (h3 : s = s') : GdS P b g want dst oc args r K s = GdS P' b' g want dst oc args r K s' := by rw [h1, h2, h3]
@[congr] theorem cg_GdQ (h1 : P = P') (h2 : b = b') (h3 : s = s') : GdQ P qf b g want dst oc args rq K s = GdQ P' qf b' g want dst oc args rq K s' := by rw [h1, h2, h3]
@[congr] theorem cg_CdS (h2 : b = b') (h3 : s = s') : CdS C b g x y Q s = CdS C b' g x y Q s' := by rw [h2, h3]
@[congr] theorem cg_SWp (h3 : s = s') : SWp C x Q s = SWp C x Q s' := by rw [h3]
@[congr] theorem cg_LdS (h1 : P = P') (h2 : B = B') (h4 : off = off') (h3 : s = s') : LdS P ag n B off dst r K s = LdS P' ag n B' off' dst r K s' := by rw [h1, h2, h3, h4]
@[congr] theorem cg_LdQ (h1 : P = P') (h2 : B = B') (h4 : off = off') (h3 : s = s') : LdQ P ag n B off dst rq K s = LdQ P' ag n B' off' dst rq K s' := by rw [h1, h2, h3, h4]
@[congr] theorem cg_StS (h1 : P = P') (h2 : B = B') (h5 : bk = bk') (h4 : off = off') (h6 : v = v') (h3 : s = s') : StS P n B bk off v dst r K s = StS P' n B' bk' off' v' dst r K s' := by rw [h1, h2, h3, h4, h5, h6]
@[congr] theorem cg_LgS {V V' : Option Tv} {m m' : Nat} (h1 : P = P') (h2 : V = V') (h5 : m = m') (h4 : off = off') (h3 : s = s') : LgS P ag n V m off dst r K s = LgS P' ag n V' m' off' dst r K s' := by rw [h1, h2, h3, h4, h5]
@[congr] theorem cg_LgQ {V V' : Option Tv} {m m' : Nat} (h1 : P = P') (h2 : V = V') (h5 : m = m') (h4 : off = off') (h3 : s = s') : LgQ P ag n V m off dst rq K s = LgQ P' ag n V' m' off' dst rq K s' := by rw [h1, h2, h3, h4, h5]
@[congr] theorem cg_SgS {V V' : Option Tv} {m m' : Nat} (h1 : P = P') (h2 : V = V') (h5 : bk = bk') (h7 : m = m') (h4 : off = off') (h6 : v = v') (h3 : s = s') : SgS P n V bk m off v dst r K s = SgS P' n V' bk' m' off' v' dst r K s' := by rw [h1, h2, h3, h4, h5, h6, h7]
end
end GoV
end
section
set_option linter.unusedSimpArgs false
namespace GoV
open Go Go.RowKit
theorem gh_nil {w : World} {g : Gh} (h : HeapRel w g ⟨[], []⟩) : g = ⟨[], [], g.I⟩ := by
  have a1 := h.len
  have a2 := h.lent
  obtain ⟨r, tk, I⟩ := g
  have b1 : r = [] := List.eq_nil_of_length_eq_zero a1.symm
  have b2 : tk = [] := List.eq_nil_of_length_eq_zero a2.symm
  subst b1; subst b2; rfl
theorem heap_nil {w : World} {I : Nat → Nat → Prop} (hI : ∀ b o, I b o → b < w.heap.size) : HeapRel w ⟨[], [], I⟩ ⟨[], []⟩ :=
  ⟨rfl, by simp, by simp, by simp, rfl, by simp, by simp, by simp [blks], fun b o h => ⟨hI b o h, by simp⟩⟩
theorem inv_below {w w' : World} {I I' : Nat → Nat → Prop} (h : HeapRel w ⟨[], [], I⟩ ⟨[], []⟩) (hb : Below w.heap.size w w') (h1 : ∀ b o, I b o → I' b o) (h2 : ∀ b o, I' b o → I b o ∨ (w.heap.size ≤ b ∧ b < w'.heap.size)) :
    Inv w ⟨[], [], I⟩ ⟨[], []⟩ w' ⟨[], [], I'⟩ := by
  refine ⟨heap_nil fun b o ho => ?_, ⟨fun b o ho => ⟨h1 b o ho, zBh (hb.block b (h.imm b o ho).1)⟩, by simp, by simp⟩, ⟨hb.os, hb.tape, hb.output, hb.size, fun b hb' _ => hb.block b hb'⟩, by simp, by simp [blks], fun b o ho => ?_⟩
  · rcases h2 b o ho with q | q
    · exact Nat.lt_of_lt_of_le (h.imm b o q).1 hb.size
    · exact q.2
  · rcases h2 b o ho with q | q
    · exact .inl q
    · exact .inr (.inl q.1)
theorem pur_extM {M : Mod} {f : FuncId} {args : List D} {d : D} {vs : List Value} (hc : zE4 M f) (ha : ∀ w g xs, RelL w g args xs → xs = vs)
    (h : ∀ w, M.amb w [] → Calls M.P f vs.toArray w fun e w' => ∃ v, e = .returned v ∧ Below w.heap.size w w' ∧
      ∀ I : Nat → Nat → Prop, ∃ I' : Nat → Nat → Prop, (∀ b o, I b o → I' b o) ∧ (∀ b o, I' b o → I b o ∨ (w.heap.size ≤ b ∧ b < w'.heap.size)) ∧ Rel w' ⟨[], [], I'⟩ d v) : Pur M f args d := by
  refine ⟨hc, fun w g xs hA hH hargs => ?_⟩
  have hg := gh_nil hH
  rw [hg] at hA hH ⊢
  rw [ha w _ xs hargs]
  refine (h w (by simpa [Gh.own, blks] using hA)).mono fun e w' hp => ?_
  obtain ⟨v, rfl, hb, hI⟩ := hp
  obtain ⟨I', h1, h2, h3⟩ := hI g.I
  exact ⟨v, d, ⟨[], []⟩, _, rfl, ⟨rfl, rfl⟩, inv_below hH hb h1 h2, h3⟩
theorem pur_ext {M : Mod} {f : FuncId} {args : List D} {d : D} {vs : List Value} {v : Value} (hc : zE4 M f) (ha : ∀ w g xs, RelL w g args xs → xs = vs) (hd : ∀ w g, Rel w g d v)
    (h : ∀ w, M.amb w [] → Calls M.P f vs.toArray w fun e w' => e = .returned v ∧ Below w.heap.size w w') : Pur M f args d := by
  refine pur_extM hc ha fun w hA => (h w hA).mono fun e w' hp => ?_
  obtain ⟨rfl, hb⟩ := hp
  exact ⟨v, rfl, hb, fun I => ⟨I, fun _ _ h => h, fun _ _ h => .inl h, hd _ _⟩⟩
theorem calls_of_pur {M : Mod} {f : FuncId} {args : List D} {d : D} (h : Pur M f args d) {w : World} (hA : M.amb w []) {xs : List Value} (hargs : RelL w ⟨[], [], fun b _ => b < w.heap.size⟩ args xs) :
    Calls M.P f xs.toArray w fun e w' => ∃ v g', e = .returned v ∧ Rel w' g' d v ∧ Below w.heap.size w w' := by
  refine (h.2 w ⟨[], [], fun b _ => b < w.heap.size⟩ xs (by simpa [Gh.own, blks] using hA) (heap_nil fun b o hb => hb) hargs).mono fun e w' hp => ?_
  obtain ⟨v, d', hp', g', rfl, ⟨rfl, rfl⟩, g3, g4⟩ := hp
  exact ⟨v, g', rfl, g4, g3.keeps.os, g3.keeps.tape, g3.keeps.output, g3.keeps.size, fun k hk => g3.keeps.block k hk (by simp [Gh.own, blks])⟩
end GoV
end
section
namespace GoV
open Go
def St.keep (ks : List Nat) (s : St) : St := { s with env := keepE ks 0 s.env }
theorem zAz {C : Cfg} {x : RC} {Q : Ex → St → Prop} {s : St} {α : Type} (ks : List Nat) (f : α → St) (inv : α → Prop) (μ : α → Nat) (a0 : α) (h0 : inv a0) (e0 : s.keep ks = f a0)
    (round : ∀ a, inv a → SWp C x (fun e s' => match e with | .normal => ∃ a', inv a' ∧ μ a' < μ a ∧ s'.keep ks = f a' | e => Q e s') (f a)) : SWp C (.loop x) Q s := by
  refine swp_loop (fun n t => ∃ a, inv a ∧ μ a = n ∧ t = f a) (μ a0) ⟨_, zBk ks, a0, h0, rfl, e0⟩ ?_
  rintro n t ⟨a, h1, rfl, rfl⟩
  refine zC5 (round a h1) fun e s' hq => ?_
  cases e
  · obtain ⟨a', g1, g2, g3⟩ := hq
    exact ⟨s', zAh, _, _, zBk ks, g2, a', g1, rfl, g3⟩
  all_goals exact ⟨s', zAh, hq⟩
def St.keepG (ks : List Nat) (n m : Nat) (s : St) : St := (s.keep ks).gc n m
theorem zB0 {C : Cfg} {x : RC} {Q : Ex → St → Prop} {s : St} {α : Type} (ks : List Nat) (n m : Nat) (hn : C.n0 ≤ n) (hm : C.m0 ≤ m) (f : α → St) (inv : α → Prop) (μ : α → Nat) (a0 : α) (h0 : inv a0) (e0 : s.keepG ks n m = f a0)
    (round : ∀ a, inv a → SWp C x (fun e s' => match e with | .normal => ∃ a', inv a' ∧ μ a' < μ a ∧ s'.keepG ks n m = f a' | e => Q e s') (f a)) : SWp C (.loop x) Q s := by
  have hw : ∀ s : St, Weak C s (s.keepG ks n m) := fun s => zBu (zBk ks) (zB2 n m hn hm)
  refine swp_loop (fun n t => ∃ a, inv a ∧ μ a = n ∧ t = f a) (μ a0) ⟨_, hw s, a0, h0, rfl, e0⟩ ?_
  rintro k t ⟨a, h1, rfl, rfl⟩
  refine zC5 (round a h1) fun e s' hq => ?_
  cases e
  · obtain ⟨a', g1, g2, g3⟩ := hq
    exact ⟨s', zAh, _, _, hw s', g2, a', g1, rfl, g3⟩
  all_goals exact ⟨s', zAh, hq⟩
theorem w32 {n : Int} (h1 : -2147483648 ≤ n) (h2 : n ≤ 2147483647) : IntKind.i32.wrap n = n := by rw [IntKind.wrap_i32]; omega
theorem wu8 {n : Int} (h1 : 0 ≤ n) (h2 : n ≤ 255) : IntKind.u8.wrap n = n := by rw [IntKind.wrap_u8]; omega
theorem wu16 {n : Int} (h1 : 0 ≤ n) (h2 : n ≤ 65535) : IntKind.u16.wrap n = n := by
  have : IntKind.u16.wrap n = n % 65536 := by simp [IntKind.wrap, IntKind.bits, IntKind.signed]
  rw [this]; omega
theorem wu32 {n : Int} (h1 : 0 ≤ n) (h2 : n ≤ 4294967295) : IntKind.u32.wrap n = n := by rw [IntKind.wrap_u32]; omega
theorem wu64 {n : Int} (h1 : 0 ≤ n) (h2 : n ≤ 18446744073709551615) : IntKind.u64.wrap n = n := by
  have : IntKind.u64.wrap n = n % 18446744073709551616 := by simp [IntKind.wrap, IntKind.bits, IntKind.signed]
  rw [this]; omega
theorem lN1 {α : Type} {a : α} {l : List α} : (a :: l).length = l.length + 1 := List.length_cons
theorem lN2 {α : Type} : ([] : List α).length = 0 := List.length_nil
theorem lN3 {α : Type} {a b : List α} : (a ++ b).length = a.length + b.length := List.length_append
theorem lN4 {α β : Type} {f : α → β} {l : List α} : (l.map f).length = l.length := List.length_map f
theorem lN5 {α : Type} {n : Nat} {a : α} : (List.replicate n a).length = n := List.length_replicate
theorem lN6 {α : Type} {n : Nat} {l : List α} : (l.take n).length = min n l.length := List.length_take
theorem lN7 {α : Type} {n : Nat} {l : List α} : (l.drop n).length = l.length - n := List.length_drop
theorem lN : (∀ {α : Type} {a : α} {l : List α}, (a :: l).length = l.length + 1) ∧ (∀ {α : Type}, ([] : List α).length = 0) ∧ (∀ {α : Type} {a b : List α}, (a ++ b).length = a.length + b.length) ∧ (∀ {α β : Type} {f : α → β} {l : List α}, (l.map f).length = l.length) ∧ (∀ {α : Type} {n : Nat} {a : α}, (List.replicate n a).length = n) ∧ (∀ {α : Type} {n : Nat} {l : List α}, (l.take n).length = min n l.length) ∧ (∀ {α : Type} {n : Nat} {l : List α}, (l.drop n).length = l.length - n) := ⟨lN1, lN2, lN3, lN4, lN5, lN6, lN7⟩
end GoV
end
section
namespace GoV
open Go Go.RowKit Go.ChangeShapes
theorem keptBut_of_below {W W' : World} {may : MemPlace → Prop} (h : Below W.heap.size W W') : W.keptBut W' may := by
  refine ⟨h.os, h.output, fun i hi => ?_⟩
  rw [h.block i hi]
  split <;> simp_all
theorem post_of_below {P : Program} {H : Type} {enc : TypeId × Value → H} {f : Func} {s : ChangeSpec} {apart fresh handsOn again : Bool} {W W' : World} {args : Array Value} {v : Value} {ds gs : List (DataW H)} {before pa pv : List MemPlace}
    (hW : DataW.Whole enc P f.params.toList s.vars apart W args.toList ds gs before)
    (hres : ∀ (b : Nat) (sp : Nat → Bool) (hd : Bool), DataW.TrodAll enc P W' b sp hd f.resultTypes.toList (v.resultList f.resultTypes.size) (s.fn H (ds ++ gs)).results [])
    (hargs : ∀ sp : Nat → Bool, (∀ p ∈ before, sp p.block = true) → DataW.TrodAll enc P W' 0 sp true f.params.toList args.toList (s.fn H (ds ++ gs)).args pa)
    (hvars : ∀ sp : Nat → Bool, (∀ p ∈ before, sp p.block = true) → DataW.TrodVars enc P W' sp s.vars (s.fn H (ds ++ gs)).vars pv)
    (hps : before = pa ++ pv) (hb : Below W.heap.size W W')
    (hok : ∀ (j : Nat) (t : TypeId) (r : Value), f.resultTypes[j]? = some t → (v.resultList f.resultTypes.size)[j]? = some r → Value.okWide P W' .any 0 t r) :
    s.post enc P f apart fresh handsOn again W args v W' := by
  have hlt : ∀ p ∈ before, p.block < W.heap.size := fun p hp => hW.lt p hp
  have hold : ∀ p ∈ before, (fun b => decide (b < W.heap.size)) p.block = true := fun p hp => by simpa using hW.lt p hp
  refine ⟨ds, gs, before, [], pa, pv, hW, hres _ _ _, hargs _ hold, hvars _ hold, World.keptBut_mono (fun p hp => ⟨hp, ?_⟩) (keptBut_of_below (may := (· ∈ before)) hb), fun _ => ?_⟩
  · rw [hps, List.mem_append] at hp
    exact Or.inr hp
  · obtain ⟨_, _, _, _, _, hz, hn⟩ := hW
    refine ⟨hok, _, _, ([] ++ pa) ++ pv, ⟨[] ++ pa, pv, trodAll_append (hargs _ (fun _ _ => rfl)) (hres _ _ _), hvars _ (fun _ _ => rfl), rfl, ?_, ?_⟩, ?_⟩
    · intro b off hp
      have hp' : MemPlace.cell b off ∈ before := by rw [hps]; simpa using hp
      have hl : b < W.heap.size := hlt _ hp'
      have e : W'.frozen? ⟨b, off, none⟩ = W.frozen? ⟨b, off, none⟩ := by
        simp only [World.frozen?, hb.block b hl]
      rw [e]
      exact hz b off hp'
    · intro ha
      have := hn ha
      rw [hps] at this
      simpa using this
    · intro p hp _
      rw [hps]
      simpa using hp
theorem int_bounds {n : Int} (h : (Lit.int .i64 n).wf = true) : -9223372036854775808 ≤ n ∧ n ≤ 9223372036854775807 := by
  simp [Lit.wf] at h
  exact h
end GoV
end
section
set_option linter.unusedSimpArgs false
set_option linter.unusedVariables false
set_option maxHeartbeats 1000000
namespace GoV
open Go
def noCells : Obj → Bool
  | .cells .. => false
  | _ => true
structure Turn (w w' : World) (D : Nat) : Prop where
  os : w'.os = w.os
  tape : w'.tape = w.tape
  output : w'.output = w.output
  size : w'.heap.size = w.heap.size
  block : ∀ b, b ≠ D → w'.heap[b]? = w.heap[b]?
  cell : ∀ o, w'.cell? ⟨D, o, none⟩ = w.cell? ⟨D, o, none⟩
theorem cell_noCells {w : World} {D : Nat} {o : Obj} (h : w.heap[D]? = some o) (ho : noCells o = true) (i : Nat) : w.cell? ⟨D, i, none⟩ = none := by
  unfold World.cell?
  simp only [h]
  cases o <;> simp_all [noCells]
theorem Turn.put {w : World} {D : Nat} {o o' : Obj} (h : w.heap[D]? = some o) (h1 : noCells o = true) (h2 : noCells o' = true) : Turn w (w.putObj D o') D := by
  have hlt : D < w.heap.size := (Array.getElem?_eq_some_iff.1 h).1
  refine ⟨rfl, rfl, rfl, by simp [World.putObj], fun b hb => World.putObj_heap_other hb, fun i => ?_⟩
  rw [cell_noCells h h1, cell_noCells (World.putObj_heap_same hlt) h2]
theorem Turn.evo {w w' : World} {D : Nat} (h : Turn w w' D) (g : Gh) : Evo w g w' g := by
  refine ⟨fun b o hi => ⟨hi, ?_⟩, fun _ _ h => h, fun _ T h => ⟨T, h, rfl, .inl rfl⟩⟩
  by_cases e : b = D
  · subst e; exact h.cell o
  · exact zBh (h.block b e)
theorem Turn.heap {w w' : World} {D : Nat} (h : Turn w w' D) {g : Gh} {hp : Hp} (hD : D ∉ g.own) (hh : HeapRel w g hp) : HeapRel w' g hp :=
  hh.other (h.evo g) rfl rfl (fun n hn => h.block n fun e => hD (e ▸ hn)) (Nat.le_of_eq h.size.symm) fun b o ho => .inl ho
theorem Turn.inv {w w' : World} {D : Nat} (h : Turn w w' D) {w0 : World} {B g : Gh} {hp : Hp} (hD : D ∉ g.own) (hlt : w0.heap.size ≤ D) (hi : Inv w0 B hp w g) : Inv w0 B hp w' g := by
  refine ⟨h.heap hD hi.heap, hi.evo.trans (h.evo g), ?_, hi.newr, hi.newt, hi.i1⟩
  exact ⟨h.os.trans hi.keeps.os, h.tape.trans hi.keeps.tape, h.output.trans hi.keeps.output, by rw [h.size]; exact hi.keeps.size,
    fun b hb hn => (h.block b (by omega)).trans (hi.keeps.block b hb hn)⟩
theorem Inv.refl' {w : World} {g : Gh} {hp : Hp} (h : HeapRel w g hp) : Inv w g hp w g :=
  ⟨h, Evo.refl _ _, Keeps.refl _ _, fun _ h => .inl h, fun _ h => .inl h, fun _ _ h => .inl h⟩
theorem Inv.join {w0 w1 w : World} {B B1 G : Gh} {hp1 hp : Hp} (h : Inv w0 B hp1 w1 B1) (k : Inv w1 B1 hp w G) : Inv w0 B hp w G := by
  have hsz := h.keeps.size
  refine ⟨k.heap, h.evo.trans k.evo, h.keeps.trans' k.keeps h.new, fun n hn => ?_, fun n hn => ?_, fun b o ho => ?_⟩
  · rcases k.newr n hn with q | q
    · exact h.newr n q
    · exact .inr (Nat.le_trans hsz q)
  · rcases k.newt n hn with q | q
    · exact h.newt n q
    · exact .inr (Nat.le_trans hsz q)
  · rcases k.i1 b o ho with q | q | q
    · exact h.i1 b o q
    · exact .inr (.inl (Nat.le_trans hsz q))
    · rcases h.newt b q with p | p
      · exact .inr (.inr p)
      · exact .inr (.inl p)

def Mod.with (M : Mod) (b : World → Gh → Prop) : Mod := { M with base := b }

def mark (D : Nat) : Deferred := { target := .collected D, args := #[] }
def SimT (C : Cfg) (n m : Nat) (w0 : World) (B : Gh) (s : St) (a : Act) (w : World) : Prop :=
  ∃ w1 B1 hp1, ∃ Ds : List Nat, Inv w0 B hp1 w1 B1 ∧ Ds.Nodup ∧ (∀ D ∈ Ds, w1.heap[D]? = some (.deferred (some [])) ∧ D ∉ B1.own ∧ w0.heap.size ≤ D) ∧
    Sim { C with n0 := n, m0 := m, dfs := Ds.map mark } w1 B1 s a w
def LiftT (C : Cfg) (w0 : World) (B : Gh) (Q : Ex → Nat → Nat → St → Prop) : Exit → Act → World → Prop
  | .normal, a, w => ∃ n m s, SimT C n m w0 B s a w ∧ Q .normal n m s
  | .exit i, a, w => ∃ n m s, SimT C n m w0 B s a w ∧ Q (.exit i) n m s
  | .ret, a, w => ∃ n m s, SimT C n m w0 B s a w ∧ Q .ret n m s
  | _, _, _ => False
structure TWp (C : Cfg) (n m : Nat) (rc : RC) (Q : Ex → Nat → Nat → St → Prop) (s : St) : Prop where
  run : ∀ c, zAu C c = some rc → ∀ w0 B, C.M.start w0 B → ∀ a w, SimT C n m w0 B s a w → c.wpIn Fence.wide 0 C.P (LiftT C w0 B Q) a w
section
variable {C : Cfg} {n m : Nat} {Q : Ex → Nat → Nat → St → Prop} {s : St}
def binds : List Dst → List D → St → St
  | p :: ps, d :: ds, s => binds ps ds (s.put p d)
  | _, _, s => s
end
theorem weak_newC {C : Cfg} {s : St} (b off k : Nat) (hk : 0 < k) {cs : List D} (hb : s.hp.H[b]? = some (.cells cs)) (hc : cs[off]? = some (.lit (.slice none 0 0))) :
    Weak C s ⟨s.env, s.scr, ⟨s.hp.H.set b (.cells (cs.set off (.slice [] (.tok s.hp.tk.length)))), s.hp.tk ++ [.per k 0]⟩⟩ := by
  intro w0 B a w h
  obtain ⟨G, g0, gb, g1, g2, g3, g4⟩ := h
  obtain ⟨q1, q2⟩ := g0.tokFull (len := 0) (a := none) hk (.per k 0) (.inl rfl)
  obtain ⟨n, hn⟩ : ∃ n, G.r[b]? = some n := by
    have hl := zAd hb
    rw [g0.heap.len] at hl
    exact ⟨_, List.getElem?_eq_getElem hl⟩
  obtain ⟨xs, e, k1, k2, k3⟩ := g0.heap.blk b _ n hb hn
  obtain ⟨x, hx, hrx⟩ := k2.get hc
  simp only [Rel] at hrx
  obtain ⟨rfl, _⟩ := hrx
  have hgs : Rel w (G.tok ⟨none, none, 0, k, 0⟩) (.slice [] (.tok s.hp.tk.length)) (.slice none 0 0) := by
    simp only [Rel]
    rw [g0.heap.lent]
    refine ⟨⟨0, 0, none⟩, 0, k, [], .inr ⟨by trivial, by simp, rfl⟩, by simp, RelL.nil, by simp, ⟨fun _ => rfl, by simp [flat]⟩, ?_⟩
    exact ⟨_, zEg _ _, rfl, by simp, fun _ => by rfl⟩
  have hset : xs.set off (.slice none 0 0) = xs := by
    apply List.ext_getElem?
    intro i
    rw [List.getElem?_set]
    split
    · rename_i e; subst e; rw [hx]; split <;> simp_all [zAd hx]
    · rfl
  obtain ⟨u1, u2⟩ := q1.write (w' := w) b n hn ⟨_, hb, by simp⟩ (.cells (cs.set off (.slice [] (.tok s.hp.tk.length))))
    (fun w1 g1 he => by
      rw [k1]
      refine ⟨xs, e, rfl, ?_, k3⟩
      have := (RelL.evo _ he (RelL.evo _ q2 k2)).set off (Rel.evo _ he hgs)
      rw [hset] at this
      exact this)
    (fun _ _ => rfl) rfl rfl rfl rfl
  refine ⟨_, u1, gb, g1, g2, g3, fun t => ?_⟩
  have h4 := g4 t
  unfold St.slot at *
  split
  · rename_i j hj
    rw [hj] at h4
    exact Rel.evo _ u2 (Rel.evo _ q2 h4)
  · rename_i hj
    rw [hj] at h4
    exact Rel.evo _ u2 (Rel.evo _ q2 h4)
section
variable {C : Cfg} {n m : Nat} {Q : Ex → Nat → Nat → St → Prop} {s : St}
end
end GoV
end
section
namespace GoV
open Go Go.RowKit Go.ChangeShapes Go.Deep
abbrev G0 (w : World) : Gh := ⟨[], [], fun b _ => b < w.heap.size⟩
def Opens (P : Program) (w : World) (n : Nat) (t : TypeId) {α : Type} (f : α → List D) (ok : α → Prop) : Prop :=
  ∀ (H : Type) (enc : TypeId × Value → H) (cs : List Value) (x : DataW H × List MemPlace), DataW.trod enc P w 0 (fun _ => true) true n t cs = some x →
    ∃ a, ok a ∧ RelL w (G0 w) (f a) cs ∧ ∀ y ∈ cs, oneC y
def pk (ds : List D) : D := match ds with | [d] => d | ds => .agg ds
section
variable {P : Program} {w : World} {n : Nat} {t e : TypeId}
theorem Opens.imp {α β : Type} {f : α → List D} {ok : α → Prop} {f' : β → List D} {ok' : β → Prop} (h : Opens P w n t f ok) (c : α → β) (h1 : ∀ a, ok a → f' (c a) = f a) (h2 : ∀ a, ok a → ok' (c a)) : Opens P w n t f' ok' := by
  intro H enc cs x hx
  obtain ⟨a, k1, k2, k3⟩ := h H enc cs x hx
  exact ⟨c a, h2 a k1, by rw [h1 a k1]; exact k2, k3⟩
theorem opens_int {k : IntKind} (ht : P.underlying t = some (.int k)) : Opens P w n t (fun z : Int => [.int k z]) (fun z => (Lit.int k z).wf = true) := by
  intro H enc cs x hx
  obtain ⟨z, rfl, _, hw⟩ := DataW.trod_int ht hx
  exact ⟨z, hw, RelL.one (by simp [Rel]), by simp [oneC, Value.oneCell']⟩
theorem zCk (ht : P.underlying t = some (.int .i64)) : Opens P w n t (fun z : Int => [.int .i64 z]) (fun z => -9223372036854775808 ≤ z ∧ z ≤ 9223372036854775807) :=
  (opens_int ht).imp id (fun _ _ => rfl) (fun _ h => int_bounds h)
theorem opens_bool (ht : P.underlying t = some .bool) : Opens P w n t (fun b : Bool => [.bool b]) (fun _ => True) := by
  intro H enc cs x hx
  obtain ⟨z, rfl, _⟩ := DataW.trod_bool ht hx
  exact ⟨z, trivial, RelL.one (by simp [Rel]), by simp [oneC, Value.oneCell']⟩
theorem zBr (ht : P.underlying t = some .string) : Opens P w n t (fun s : List UInt8 => [.str s]) (fun s => s.length ≤ 9223372036854775807) := by
  intro H enc cs x hx
  obtain ⟨s, rfl, _, hl⟩ := DataW.trod_string ht hx
  refine ⟨s.data.toList, ?_, RelL.one (by simp [Rel]), by simp [oneC, Value.oneCell']⟩
  have : s.data.toList.length = s.size := by rw [Array.length_toList]; rfl
  show s.data.toList.length ≤ _
  rw [this]
  exact Nat.le_trans hl (by decide)
theorem rel_pk {ds : List D} {cs : List Value} (h : RelL w (G0 w) ds cs) (ho : ∀ y ∈ cs, oneC y) : ∃ v, Rel w (G0 w) (pk ds) v ∧ v.cells.toList = cs := by
  unfold pk
  split
  · rename_i d
    obtain ⟨y, ys, rfl, h1, h2⟩ := h.inv
    rw [h2.inv_nil] at ho ⊢
    exact ⟨y, h1, by rw [zF5 (ho y (by simp))]⟩
  · exact ⟨.agg cs.toArray, by simp only [Rel]; exact ⟨cs, rfl, h, ho⟩, by simp [Value.cells]⟩
theorem list_choose {α : Type} {q : Nat → α → Prop} : ∀ n, (∀ i, i < n → ∃ a, q i a) → ∃ l : List α, l.length = n ∧ ∀ i (h : i < l.length), q i l[i]
  | 0, _ => ⟨[], rfl, by simp⟩
  | n + 1, h => by
    obtain ⟨l, h1, h2⟩ := list_choose n fun i hi => h i (by omega)
    obtain ⟨a, ha⟩ := h n (by omega)
    refine ⟨l ++ [a], by simp [h1], fun i hi => ?_⟩
    by_cases e : i < l.length
    · rw [List.getElem_append_left e]; exact h2 i e
    · have : i = l.length := by simp at hi; omega
      subst this
      simp; rw [h1]; exact ha
theorem flat_get {k : Nat} (hk : 0 < k) : ∀ {xs : List Value}, (∀ y ∈ xs, y.cells.size = k) → ∀ {j : Nat} {y : Value}, (flat xs)[j]? = some y → ∃ x, xs[j / k]? = some x ∧ x.cells.toList[j % k]? = some y
  | [], _, j, y, h => by simp [flat] at h
  | x :: xs, hs, j, y, h => by
    have hx : x.cells.toList.length = k := by simpa using hs x (by simp)
    simp only [flat] at h
    by_cases e : j < k
    · rw [List.getElem?_append_left (by omega)] at h
      exact ⟨x, by simp [Nat.div_eq_of_lt e], by rw [Nat.mod_eq_of_lt e]; exact h⟩
    · rw [List.getElem?_append_right (by omega), hx] at h
      obtain ⟨x', h1, h2⟩ := flat_get hk (fun y hy => hs y (by simp [hy])) h
      refine ⟨x', ?_, by rwa [Nat.mod_eq_sub_mod (by omega)]⟩
      rw [Nat.div_eq_sub_div hk (by omega)]
      simpa using h1
theorem zCq {α : Type} {f : α → List D} {ok : α → Prop} (ht : P.underlying t = some (.slice e)) (hc : 0 < P.cellsOf e) (h : Opens P w n e f ok) :
    Opens P w (n + 1) t (fun l : List α => [.slice (l.map fun a => pk (f a)) .no]) (fun l => l.length ≤ 9223372036854775807 ∧ ∀ a ∈ l, ok a) := by
  intro H enc cs x hx
  rcases DataW.trod_slice ht hx with ⟨rfl, _⟩ | ⟨a, len, cap, elems, rest, n', hn, rfl, _, _, hlc, hm, hlen, hel, _⟩
  · refine ⟨[], by simp, RelL.one ?_, by simp [oneC, Value.oneCell']⟩
    simp only [Rel]
    exact ⟨⟨0, 0, none⟩, 0, 0, [], .inr ⟨by simp, by simp, rfl⟩, by simp, RelL.nil, by simp, At.nil, trivial⟩
  obtain rfl : n = n' := by omega
  have one : ∀ i, i < len → ∃ av : α × Value, ok av.1 ∧ Rel w (G0 w) (pk (f av.1)) av.2 ∧ w.cells? 0 (a.add (i * P.cellsOf e)) (P.cellsOf e) = some av.2.cells.toList ∧ ∀ y ∈ av.2.cells.toList, oneC y := by
    intro i hi
    have h1 := hel i hi
    rw [List.getElem?_eq_getElem (by omega)] at h1
    obtain ⟨cs', h2, h3⟩ := Option.bind_eq_some_iff.1 h1
    obtain ⟨b, k1, k2, k3⟩ := h H enc cs' _ h3
    obtain ⟨v, k4, k5⟩ := rel_pk k2 k3
    exact ⟨⟨b, v⟩, k1, k4, by rw [k5]; exact h2, by rw [k5]; exact k3⟩
  obtain ⟨l, hl, hq⟩ := list_choose len one
  have hrel : ∀ (l : List (α × Value)), (∀ i (h : i < l.length), Rel w (G0 w) (pk (f (l[i]).1)) (l[i]).2) → RelL w (G0 w) (l.map fun av => pk (f av.1)) (l.map (·.2)) := by
    intro l
    induction l with
    | nil => intro _; exact RelL.nil
    | cons x l ih => intro hh; exact RelL.cons (hh 0 (by simp)) (ih fun i hi => hh (i + 1) (by simpa using hi))
  have hsz : ∀ y ∈ l.map (·.2), y.cells.size = P.cellsOf e := by
    intro y hy
    obtain ⟨av, hav, rfl⟩ := List.mem_map.1 hy
    obtain ⟨i, hi, rfl⟩ := List.getElem_of_mem hav
    have := (World.cells?_some (hq i hi).2.2.1).2.1
    simpa using this
  have cap_le : len ≤ 9223372036854775807 := Nat.le_trans hlc (Nat.le_trans hm (by decide))
  refine ⟨l.map (·.1), ⟨by simpa [hl] using cap_le, fun b hb => ?_⟩, RelL.one ?_, by simp [oneC, Value.oneCell']⟩
  · obtain ⟨av, hav, rfl⟩ := List.mem_map.1 hb
    obtain ⟨i, hi, rfl⟩ := List.getElem_of_mem hav
    exact (hq i hi).1
  · simp only [Rel]
    refine ⟨a, cap, P.cellsOf e, l.map (·.2), .inl (by simp [hl]), by simp [hl, hlc], ?_, hsz, ⟨fun hne => ?_, fun j y hj => ?_⟩, trivial⟩
    · have := hrel l fun i hi => (hq i hi).2.1
      rw [List.map_map]
      exact this
    · have hpos : 0 < l.length := by
        rcases Nat.eq_zero_or_pos l.length with q | q
        · exfalso; apply hne
          rw [List.length_eq_zero_iff.1 q]; rfl
        · exact q
      have hc0 := (World.cells?_some (hq 0 hpos).2.2.1).2.2 0 hc
      have hlen0 := (World.cells?_some (hq 0 hpos).2.2.1).2.1
      rw [List.getElem?_eq_getElem (by omega)] at hc0
      simp only [Nat.zero_mul] at hc0
      have ha0 : ∀ b : Addr, b.add 0 = b := fun b => by simp [Addr.add]
      rw [ha0, ha0] at hc0
      unfold World.cell? at hc0
      split at hc0
      · split at hc0
        · cases hc0
        · rename_i hs; simpa using hs
      · cases hc0
    · obtain ⟨x, h1, h2⟩ := flat_get hc hsz hj
      rw [List.getElem?_map] at h1
      obtain ⟨av, hav, rfl⟩ := Option.map_eq_some_iff.1 h1
      have hi : j / P.cellsOf e < l.length := by
        rcases Nat.lt_or_ge (j / P.cellsOf e) l.length with q | q
        · exact q
        · rw [List.getElem?_eq_none q] at hav; cases hav
      rw [List.getElem?_eq_getElem hi] at hav
      cases hav
      obtain ⟨_, _, k3, k4⟩ := hq _ hi
      have hm := Nat.mod_lt j hc
      have hcell := (World.cells?_some k3).2.2 _ hm
      rw [h2] at hcell
      have hadd : w.cell? ((a.add (j / P.cellsOf e * P.cellsOf e)).add (j % P.cellsOf e)) = w.cell? ⟨a.block, a.off + j, none⟩ := by
        rw [add_add]
        have e1 : j / P.cellsOf e * P.cellsOf e + j % P.cellsOf e = j := Nat.div_add_mod' j _
        rw [e1]
        unfold Addr.add
        split
        · rename_i hj0
          subst hj0
          rw [add_add, e1] at hcell
          have : a.add 0 = a := by simp [Addr.add]
          rw [this] at hcell
          have hsp : a.spot = none := by
            unfold World.cell? at hcell
            split at hcell
            · split at hcell
              · cases hcell
              · rename_i hs; simpa using hs
            · cases hcell
          obtain ⟨b, o, s⟩ := a
          simp at hsp; subst hsp; rfl
        · rfl
      rw [hadd] at hcell
      refine ⟨hcell, ?_, k4 y (List.mem_of_getElem? h2)⟩
      have := World.block_lt_of_cell? w _ hcell
      exact this

def zD1 (P : Program) (w : World) (n : Nat) (fs : List Field) (off : Nat) {α : Type} (f : α → List D) (ok : α → Prop) : Prop :=
  ∀ (H : Type) (enc : TypeId × Value → H) (cs : List Value), cs.length = off + (fs.map fun f => P.cellsOf f.type).sum →
    (∀ f ∈ fs, ∃ x, DataW.trod enc P w 0 (fun _ => true) true n f.type ((cs.drop f.offset).take (P.cellsOf f.type)) = some x) →
    ∃ a, ok a ∧ RelL w (G0 w) (f a) (cs.drop off) ∧ ∀ y ∈ cs.drop off, oneC y
theorem zB5 {off : Nat} : zD1 P w n [] off (fun _ : Unit => []) (fun _ => True) := by
  intro H enc cs hl _
  have : cs.drop off = [] := List.drop_eq_nil_of_le (by simp at hl; omega)
  rw [this]
  exact ⟨(), trivial, RelL.nil, by simp⟩
theorem zAi {α β : Type} {f : α → List D} {ok : α → Prop} {g : β → List D} {ok' : β → Prop} {fl : Field} {fs : List Field} {off c : Nat} (ho : fl.offset = off) (hc : P.cellsOf fl.type = c) (h : Opens P w n fl.type f ok) (hr : zD1 P w n fs (off + c) g ok') :
    zD1 P w n (fl :: fs) off (fun p : α × β => f p.1 ++ g p.2) (fun p => ok p.1 ∧ ok' p.2) := by
  subst ho; subst hc
  intro H enc cs hl hf
  simp only [List.map_cons, List.sum_cons] at hl
  obtain ⟨x, hx⟩ := hf fl (by simp)
  obtain ⟨a, k1, k2, k3⟩ := h H enc _ x hx
  obtain ⟨b, j1, j2, j3⟩ := hr H enc cs (by omega) (fun f hm => hf f (by simp [hm]))
  have e : cs.drop fl.offset = (cs.drop fl.offset).take (P.cellsOf fl.type) ++ cs.drop (fl.offset + P.cellsOf fl.type) := by
    rw [← List.drop_drop, List.take_append_drop]
  refine ⟨(a, b), ⟨k1, j1⟩, ?_, ?_⟩
  · rw [e]; exact k2.append j2
  · rw [e]
    intro y hy
    rcases List.mem_append.1 hy with q | q
    · exact k3 y q
    · exact j3 y q
theorem zBc {α : Type} {f : α → List D} {ok : α → Prop} {fs : List Field} (ht : P.underlying t = some (.struct fs.toArray)) (hc : P.cellsOf t = (fs.map fun f => P.cellsOf f.type).sum) (h : zD1 P w n fs 0 f ok) : Opens P w (n + 1) t f ok := by
  intro H enc cs x hx
  obtain ⟨xs, n', hn, _, hl, hlen, hf⟩ := DataW.trod_struct ht hx
  obtain rfl : n = n' := by omega
  have := h H enc cs (by omega) (fun f hm => by
    obtain ⟨i, hi, rfl⟩ := List.getElem_of_mem hm
    have hq := hf i fs[i] (by simp [hi])
    rw [hq]
    have : i < xs.length := by rw [hlen]; simpa using hi
    exact ⟨xs[i], List.getElem?_eq_getElem this⟩)
  simpa using this
theorem opens_zero {α : Type} {f : α → List D} {ok : α → Prop} : Opens P w 0 t f ok := by
  intro H enc cs x hx
  simp [DataW.trod] at hx
theorem zBm {α : Type} {f : α → List D} {ok : α → Prop} (h : ∀ n, Opens P w (n + 1) t f ok) : ∀ n, Opens P w n t f ok
  | 0 => opens_zero
  | n + 1 => h n

theorem arg_cell {α : Type} {f : α → List D} {ok : α → Prop} {H : Type} {enc : TypeId × Value → H} {v : Value} {d : DataW H} {ps : List MemPlace} {b : Nat} {desc : TypeDesc} (ht : P.underlying t = some desc) (hd : zA7 desc = false) (hval : Value.okWide P w .any b t v)
    (h : DataW.Trod enc P w 0 (fun _ => true) true t v d ps) (hO : ∀ n, Opens P w n t f ok) : ∃ a, ok a ∧ RelL w (G0 w) (f a) [v] := by
  obtain ⟨fuel, hx⟩ := h
  obtain ⟨a, k1, k2, _⟩ := hO fuel H enc _ _ hx
  refine ⟨a, k1, ?_⟩
  have hv : oneC v := by
    cases v with
    | agg cs =>
      exfalso
      unfold Value.okWide at hval
      rw [ht] at hval
      cases desc <;> simp_all [zA7, Cell.okWide, Cell.ok]
    | tuple cs =>
      exfalso
      unfold Value.okWide at hval
      rw [ht] at hval
      cases desc <;> simp_all [zA7, Cell.okWide, Cell.ok]
    | _ => simp [oneC, Value.oneCell']
  rw [zF5 hv] at k2
  exact k2
theorem arg_row {α : Type} {f : α → List D} {ok : α → Prop} {H : Type} {enc : TypeId × Value → H} {v : Value} {d : DataW H} {ps : List MemPlace} {b : Nat} {fs : Array Field} (ht : P.underlying t = some (.struct fs)) (hval : Value.okWide P w .any b t v)
    (h : DataW.Trod enc P w 0 (fun _ => true) true t v d ps) (hO : ∀ n, Opens P w n t f ok) : ∃ a, ok a ∧ RelL w (G0 w) [.agg (f a)] [v] := by
  obtain ⟨fuel, hx⟩ := h
  obtain ⟨a, k1, k2, k3⟩ := hO fuel H enc _ _ hx
  refine ⟨a, k1, RelL.one ?_⟩
  unfold Value.okWide at hval
  rw [ht] at hval
  obtain ⟨cs, rfl, _⟩ := hval
  simp only [Value.cells] at k2 k3
  simp only [Rel]
  exact ⟨cs.toList, by simp, k2, k3⟩
theorem zFs {ds es : List D} {xs ys : List Value} (h : RelL w (G0 w) ds xs) (h2 : RelL w (G0 w) es ys) : RelL w (G0 w) (ds ++ es) (xs ++ ys) := h.append h2
end
end GoV
end
section
set_option maxHeartbeats 1000000
namespace GoV
open Go Go.RowKit
theorem flat_strs : ∀ ss : List ByteArray, flat (ss.map Value.string) = ss.map Value.string
  | [] => rfl
  | s :: ss => by simp [flat, Value.cells, flat_strs ss]

end GoV
end
section
set_option linter.unusedSimpArgs false
set_option linter.unusedVariables false
set_option maxHeartbeats 1000000
namespace GoV
open Go
section
variable {C : Cfg} {w0 : World} {B : Gh}
end
section
variable {M : Mod} {j i : Nat} {dst : Dst} {a g : Opd} {q : Bool} {r : List (RO × Bool)} {K : St → Prop} {s : St} {want : Bool} {oc : OC} {args : List Opd}
end
end GoV
end
section
set_option linter.unusedSimpArgs false
set_option linter.unusedVariables false
set_option maxHeartbeats 1000000
namespace GoV
open Go
section
variable {C : Cfg} {w0 : World} {B : Gh}
theorem draw_soundF {ro : Option Nat} (hA : C.M.start w0 B) {ops : Array Oper} {m : Nat} {ros : List RO} {K : St → Prop} {Q : Exit → Act → World → Prop} (hB : drawOk ops m = true) (hm : m ≤ ops.size) (hr : zBq C ops (List.range' 0 ops.size) = some ros)
    (hQ : ∀ s a w, K s → Sim C w0 B s a w → Q .normal a w) {s : St} (_hl : s.env.length = C.pers.length)
    {ds : Nat → D} {F : (Nat → Bool) → Hp} {s1 : St} (hk1 : opsWp C.M (ros.drop m) K s1) (hpm : F (fun j => decide (j < m)) = s1.hp) (hl1 : s1.env.length = C.pers.length)
    (hst : ∀ i, i < m → ∃ o, ops[i]? = some o ∧ ∀ E : Nat → Bool, E i = false → StepQ C ops (F E) (F (fun j => E j || j == i)) (sig ops (s.slot C.pers) ds (fun _ => true) i) o (ds i))
    (hend : sig ops (s.slot C.pers) ds (fun _ => true) m = s1.slot C.pers) :
    ∀ (fuel : Nat) (listed : Array Bool) (a : Act) (w : World), listed.size = ops.size → unl listed.toList ≤ fuel →
      (∀ j oj, ops[j]? = some oj → listed.getD j false = true → ∀ e ∈ oj.after, Region.binds .any e = true → listed.getD e.on false = true) →
      (((∀ j, listed.getD j false = true → j < m) ∧ SimF C w0 B (sig ops (s.slot C.pers) ds (fun j => listed.getD j false) m) (F (fun j => listed.getD j false)) a w) ∨
        ∃ i s', m ≤ i ∧ (∀ j, j < ops.size → (listed.getD j false = true ↔ j < i)) ∧ Sim C w0 B s' a w ∧ opsWp C.M (ros.drop i) K s') →
      wpAnyIn (FR ro) 0 C.P .any ops Q fuel listed a w := by
  have hros : ros.length = ops.size := by rw [zCj _ _ hr]; simp
  have hsub : ∀ (listed : Array Bool), (∀ j oj, ops[j]? = some oj → listed.getD j false = true → ∀ e ∈ oj.after, Region.binds .any e = true → listed.getD e.on false = true) →
      ∀ j oj, ops[j]? = some oj → (∀ e ∈ oj.after, Region.binds .any e = true → listed.getD e.on false = true) → ∀ i ∈ (zA1 ops.toList).getD j [], listed.getD i false = true := by
    intro listed hcl j
    induction j using Nat.strongRecOn with
    | _ j ih =>
      intro oj hj ha i hi
      obtain ⟨e, he, hbd, h1⟩ := zFe (by simpa using hj) hi
      rcases h1 with h1 | h1
      · rw [h1]; exact ha e he hbd
      · have hlt := (zA0 hB hj).1 e he hbd
        have hjs : j < ops.size := (Array.getElem?_eq_some_iff.1 hj).1
        have hoe : ops[e.on]? = some ops[e.on] := Array.getElem?_eq_getElem (by omega)
        exact ih e.on hlt _ hoe (hcl e.on _ hoe (ha e he hbd)) i h1
  have conv : ∀ (listed : Array Bool) (a : Act) (w : World), (∀ j, listed.getD j false = true → j < m) → (∀ j, j < m → listed.getD j false = true) →
      SimF C w0 B (sig ops (s.slot C.pers) ds (fun j => listed.getD j false) m) (F (fun j => listed.getD j false)) a w → Sim C w0 B s1 a w := by
    intro listed a w h1 h2 hs
    have e : sig ops (s.slot C.pers) ds (fun j => listed.getD j false) m = s1.slot C.pers := by
      rw [← hend]; funext t
      exact zEi m fun j hj _ => h2 j hj
    obtain ⟨G, g1, gb, g2, g3, g4⟩ := hs
    have ef : (fun j => listed.getD j false) = (fun j => decide (j < m)) := by
      funext j
      by_cases q : j < m
      · rw [h2 j q, decide_eq_true q]
      · rw [decide_eq_false q]
        cases hb : listed.getD j false with
        | false => rfl
        | true => exact absurd (h1 j hb) q
    rw [ef] at g1
    exact ⟨G, by rw [← hpm]; exact g1, gb, g2, g3, hl1, by rw [← e]; exact g4⟩
  have fin : ∀ (listed : Array Bool) (a : Act) (w : World), (∀ j, j < ops.size → listed.getD j false = true) →
      (((∀ j, listed.getD j false = true → j < m) ∧ SimF C w0 B (sig ops (s.slot C.pers) ds (fun j => listed.getD j false) m) (F (fun j => listed.getD j false)) a w) ∨
        ∃ i s', m ≤ i ∧ (∀ j, j < ops.size → (listed.getD j false = true ↔ j < i)) ∧ Sim C w0 B s' a w ∧ opsWp C.M (ros.drop i) K s') → Q .normal a w := by
    intro listed a w hall h
    rcases h with ⟨h1, h2⟩ | ⟨i, s', h1, h2, h3, h4⟩
    · have hs1 := conv listed a w h1 (fun j hj => hall j (by omega)) h2
      have hmn : ops.size ≤ m := by
        rcases Nat.eq_zero_or_pos ops.size with g | g
        · omega
        · have := h1 (ops.size - 1) (hall _ (by omega)); omega
      rw [List.drop_eq_nil_of_le (by omega)] at hk1
      exact hQ s1 a w hk1 hs1
    · have hin : ops.size ≤ i := by
        rcases Nat.eq_zero_or_pos ops.size with g | g
        · omega
        · have := (h2 (ops.size - 1) (by omega)).1 (hall _ (by omega)); omega
      rw [List.drop_eq_nil_of_le (by omega)] at h4
      exact hQ s' a w h4 h3
  have least : ∀ (listed : Array Bool), listed.size = ops.size → (∀ j oj, ops[j]? = some oj → listed.getD j false = true → ∀ e ∈ oj.after, Region.binds .any e = true → listed.getD e.on false = true) →
      Region.ready .any ops listed = [] → ∀ j, j < ops.size → listed.getD j false = true := by
    intro listed hsz hcl hr0 j
    induction j using Nat.strongRecOn with
    | _ j ih =>
      intro hj
      cases hb : listed.getD j false with
      | true => rfl
      | false =>
        exfalso
        have hoj : ops[j]? = some ops[j] := Array.getElem?_eq_getElem hj
        have : j ∈ Region.ready .any ops listed := by
          rw [mem_ready]
          refine ⟨?_, ops[j], hoj, fun e he hbd => ?_⟩
          · have hlt : j < listed.size := by omega
            simp [hlt] at hb ⊢; exact hb
          · have := (zA0 hB hoj).1 e he hbd
            exact ih e.on this (by omega)
        rw [hr0] at this; cases this
  intro fuel
  induction fuel with
  | zero =>
    intro listed a w hsz hu hcl h
    have hall : ∀ j, j < ops.size → listed.getD j false = true := by
      intro j hj
      have hlt : j < listed.size := by omega
      have := unl_zero listed.toList (by omega) j (by simpa using hlt)
      simp [hlt] at this ⊢; exact this
    refine ⟨?_, fin listed a w hall h⟩
    cases hr0 : Region.ready .any ops listed with
    | nil => rfl
    | cons i l =>
      have : i ∈ Region.ready .any ops listed := by rw [hr0]; simp
      obtain ⟨h1, o, ho, _⟩ := mem_ready.1 this
      have hlt : i < ops.size := (Array.getElem?_eq_some_iff.1 ho).1
      have h2 := hall i hlt
      have hlt2 : i < listed.size := by omega
      simp [hlt2] at h1 h2; rw [h1] at h2; cases h2
  | succ fuel ih =>
    intro listed a w hsz hu hcl h
    refine ⟨fun hr0 => fin listed a w (least listed hsz hcl hr0) h, fun i hi => ?_⟩
    obtain ⟨hun, o, ho, hdeps⟩ := mem_ready.1 hi
    have hlt : i < ops.size := (Array.getElem?_eq_some_iff.1 ho).1
    have hlt2 : i < listed.size := by omega
    have hunf : listed.getD i false = false := by simp [hlt2] at hun ⊢; exact hun
    have hdeps' : ∀ e ∈ o.after, Region.binds .any e = true → listed.getD e.on false = true := hdeps
    have hbef := hsub listed hcl i o ho hdeps'
    have hcl' : ∀ j oj, ops[j]? = some oj → (listed.setIfInBounds i true).getD j false = true → ∀ e ∈ oj.after, Region.binds .any e = true → (listed.setIfInBounds i true).getD e.on false = true := by
      intro j oj hj hlj e he hbd
      rw [zBy hlt2] at hlj ⊢
      simp only [Bool.or_eq_true, beq_iff_eq] at hlj ⊢
      rcases hlj with g | g
      · exact .inl (hcl j oj hj g e he hbd)
      · subst g
        rw [ho] at hj; cases hj
        exact .inl (hdeps' e he hbd)
    have hu' : unl (listed.setIfInBounds i true).toList ≤ fuel := by
      have := unl_set listed.toList i (by simp [hlt2] at hunf ⊢; exact hunf)
      simp only [Array.toList_setIfInBounds]; omega
    have hafter : m ≤ i → ∀ j, j < ops.size → (listed.getD j false = true ↔ j < i) := by
      intro hmi j hj
      constructor
      · intro hlj
        rcases Nat.lt_trichotomy j i with g | g | g
        · exact g
        · subst g; rw [hunf] at hlj; cases hlj
        · exfalso
          have hoj : ops[j]? = some ops[j] := Array.getElem?_eq_getElem hj
          obtain ⟨oi, hoi, q⟩ := (zA0 hB hoj).2 i g
          rcases q with q | q
          · have := hsub listed hcl j _ hoj (hcl j _ hoj hlj) i q
            rw [hunf] at this; cases this
          · omega
      · intro hji
        obtain ⟨oi, hoi, q⟩ := (zA0 hB ho).2 j hji
        rcases q with q | q
        · exact hbef j q
        · omega
    unfold wpOpIn
    rw [ho]
    by_cases him : i < m
    · 
      rcases h with ⟨h1, h2⟩ | ⟨i', s', h1, h2, h3, h4⟩
      · obtain ⟨o', ho', hq⟩ := hst i him
        rw [ho] at ho'; cases ho'
        have ords : ∀ j, j < m → j ≠ i → ∀ t, t ∈ zC3 ops o → dstO ops j = some t → (listed.getD j false = true ↔ j < i) := by
          intro j hj hji t ht hd
          have hjs : j < ops.size := by omega
          have hoj : ops[j]? = some ops[j] := Array.getElem?_eq_getElem hjs
          have hdj : ops[j].dst = some t := by simpa [dstO, hoj] using hd
          constructor
          · intro hlj
            rcases Nat.lt_or_ge j i with g | g
            · exact g
            · exfalso
              obtain ⟨oi, hoi, q⟩ := (zA0 hB hoj).2 i (by omega)
              rw [ho] at hoi; cases hoi
              rcases q with q | q
              · have := hsub listed hcl j _ hoj (hcl j _ hoj hlj) i q
                rw [hunf] at this; cases this
              · exact (zE2 q.2).2 t hdj ht
          · intro g
            obtain ⟨oi, hoi, q⟩ := (zA0 hB ho).2 j g
            rw [hoj] at hoi; cases hoi
            rcases q with q | q
            · exact hbef j q
            · exact absurd ht ((zE2 q.2).1 t hdj)
        have hlook : ∀ t ∈ o.looksAt ops, sig ops (s.slot C.pers) ds (fun _ => true) i t = sig ops (s.slot C.pers) ds (fun j => listed.getD j false) m t := by
          intro t ht
          have ht' : t ∈ zC3 ops o := by simp [zC3, ht]
          have e1 : sig ops (s.slot C.pers) ds (fun j => listed.getD j false) m t = sig ops (s.slot C.pers) ds (fun j => listed.getD j false) i t := by
            refine zD4 m (by omega) fun j g1 g2 g3 hd => ?_
            by_cases hji : j = i
            · subst hji; rw [hunf] at g3; cases g3
            · have := (ords j g2 hji t ht' hd).1 g3; omega
          rw [e1]
          exact zEi i fun j hj hd => ((ords j (by omega) (by omega) t ht' hd).2 hj).symm
        obtain ⟨o', x, r1, r2, r3⟩ := zC9 _ _ i ros hr hlt
        rw [Nat.zero_add, ho] at r1; cases r1
        have hx : ros[i]? = some x := by
          have := List.getElem?_drop (xs := ros) (i := i) (j := 0)
          rw [r3] at this; simpa using this.symm
        have hL : ∀ j, (listed.setIfInBounds i true).getD j false = (listed.getD j false || j == i) := fun j => zBy hlt2
        have hstep : StepQ C ops (F (fun j => listed.getD j false)) (F (fun j => (listed.setIfInBounds i true).getD j false)) (sig ops (s.slot C.pers) ds (fun _ => true) i) o (ds i) := by
          have e : (fun j => (listed.setIfInBounds i true).getD j false) = fun j => listed.getD j false || j == i := funext hL
          rw [e]
          exact hq _ hunf
        refine StepQ.sound hA (hstep.congr hlook) h2 fun a' w' hs' => ih _ a' w' (by simpa using hsz) hu' hcl' (.inl ⟨fun j hj => ?_, ?_⟩)
        · rw [zBy hlt2] at hj
          simp only [Bool.or_eq_true, beq_iff_eq] at hj
          rcases hj with g | g
          · exact h1 j g
          · omega
        · have e2 : sig ops (s.slot C.pers) ds (fun j => (listed.setIfInBounds i true).getD j false) m = updO (sig ops (s.slot C.pers) ds (fun j => listed.getD j false) m) (dstO ops i) (ds i) := by
            rw [← sig_set him hunf]
            · congr 1; funext j; exact zBy hlt2
            · intro j t g1 g2 g3 g4 g5
              cases hb : listed.getD j false with
              | false => rfl
              | true =>
                have hoi : o.dst = some t := by simpa [dstO, ho] using g3
                have := (ords j g1 g2 t (by simp [zC3, hoi]) g4).1 hb
                omega
          rw [e2]
          have : dstO ops i = o.dst := by simp [dstO, ho]
          rw [this]; exact hs'
      · exfalso
        have := (h2 i hlt).2 (by omega)
        rw [hunf] at this; cases this
    · 
      have hmi : m ≤ i := by omega
      have hiff := hafter hmi
      obtain ⟨s', hs', hk'⟩ : ∃ s', Sim C w0 B s' a w ∧ opsWp C.M (ros.drop i) K s' := by
        rcases h with ⟨h1, h2⟩ | ⟨i', s', h1, h2, h3, h4⟩
        · have hie : i = m := by
            rcases Nat.lt_or_ge m i with g | g
            · have := h1 m ((hiff m (by omega)).2 g); omega
            · omega
          subst hie
          exact ⟨s1, conv listed a w h1 (fun j hj => (hiff j (by omega)).2 hj) h2, hk1⟩
        · have hie : i' = i := by
            rcases Nat.lt_trichotomy i' i with g | g | g
            · have q1 := (hiff i' (by omega)).2 g
              have := (h2 i' (by omega)).1 q1; omega
            · exact g
            · have := (h2 i hlt).2 g; rw [hunf] at this; cases this
          subst hie
          exact ⟨s', h3, h4⟩
      obtain ⟨o', x, g1, g2, g3⟩ := zC9 _ _ i ros hr hlt
      rw [Nat.zero_add, ho] at g1; cases g1
      rw [g3] at hk'
      refine head_sound hA g2 (K := opsWp C.M (ros.drop (i + 1)) K) (fun s'' a' w' q1 q2 => ih _ a' w' (by simpa using hsz) hu' hcl' (.inr ⟨i + 1, s'', by omega, fun j hj => ?_, q2, q1⟩)) hk' hs'
      rw [zBy hlt2]
      simp only [Bool.or_eq_true, beq_iff_eq]
      have := hiff j hj
      constructor
      · rintro (q | q)
        · have := this.1 q; omega
        · omega
      · intro q
        by_cases e : j = i
        · exact .inr e
        · exact .inl (this.2 (by omega))
def AnyF (M : Mod) (F : (Nat → Bool) → Hp) (i : Nat) (oc : OC) (ds : List D) (d : D) : Prop := ∀ E : Nat → Bool, E i = false → OcWp M oc ds (F E) (fun d' hp' => d' = d ∧ hp' = F (fun j => E j || j == i))
def Still (F : (Nat → Bool) → Hp) (i : Nat) : Prop := ∀ E : Nat → Bool, E i = false → F (fun j => E j || j == i) = F E
def headF (M : Mod) (F : (Nat → Bool) → Hp) (i : Nat) (o : RO) (K : St → Prop) (s : St) : Prop :=
  match o.guard with
  | none => ∃ d, AnyF M F i o.oc (o.args.map s.get) d ∧ K (s.put o.dst d)
  | some (g, want) =>
    match s.get g with
    | .bool b => (b = want → ∃ d, AnyF M F i o.oc (o.args.map (s.setO g (.bool want)).get) d ∧ K ((s.setO g (.bool want)).put o.dst d)) ∧
        (b = (!want) → Still F i ∧ K ((s.setO g (.bool (!want))).put o.dst .skip))
    | .skip => Still F i ∧ K (s.put o.dst .skip)
    | _ => False
def opsF (M : Mod) (F : (Nat → Bool) → Hp) : Nat → List (RO × Bool) → (St → Prop) → St → Prop
  | j, [], K, s => K { s with hp := F (fun k => decide (k < j)) }
  | i, (o, _) :: r, K, s => headF M F i o (opsF M F (i + 1) r K) s
theorem headF_step {ops : Array Oper} {o : Oper} {x : RO} {K : St → Prop} {s : St} (h1 : zEf C ops o = some x) (hl : s.env.length = C.pers.length) {F : (Nat → Bool) → Hp} {i : Nat} (h : headF C.M F i x K s) :
    ∃ d s1, K s1 ∧ s1.hp = s.hp ∧ s1.env.length = C.pers.length ∧ (∀ E : Nat → Bool, E i = false → StepQ C ops (F E) (F (fun j => E j || j == i)) (s.slot C.pers) o d) ∧ s1.slot C.pers = updO (s.slot C.pers) o.dst d := by
  unfold zEf at h1
  cases hres : zBl C.P o.op with
  | none => simp [hres] at h1
  | some p =>
    obtain ⟨oc, ys⟩ := p
    cases ha : resOs C ys with
    | none => simp [hres, ha] at h1
    | some args =>
      cases hd : zDa C o.dst with
      | none => simp [hres, ha, hd] at h1
      | some dst =>
        cases hg : zCu C ops o.guard with
        | none => simp [hres, ha, hd, hg] at h1
        | some guard =>
          simp [hres, ha, hd, hg] at h1; subst h1
          cases hog : o.guard with
          | none =>
            simp [hog, zCu] at hg; subst hg
            simp only [headF] at h
            obtain ⟨d, h2, h3⟩ := h
            rw [map_evO ha] at h2
            exact ⟨d, _, h3, zDv _ _ _, by rw [zBp]; exact hl, fun E hE => ⟨oc, ys, hres, ⟨_, ha⟩, ⟨_, hd⟩, .inl ⟨hog, h2 E hE⟩⟩, zDk hd hl _⟩
          | some p =>
            obtain ⟨j, want⟩ := p
            simp only [hog, zCu] at hg
            cases hj : (ops[j]?).bind (·.dst) with
            | none => simp [hj] at hg
            | some t =>
              simp only [hj] at hg
              cases hgo : resO C (.tmp t) with
              | none => simp [hgo] at hg
              | some g =>
                simp [hgo] at hg; subst hg
                have htn := (zD9 hgo).2
                simp only [headF] at h
                have hsl : s.slot C.pers t = s.get g := (zF0 hgo).symm
                cases hb : s.get g <;> simp only [hb] at h
                case bool b =>
                  by_cases e : b = want
                  · subst e
                    obtain ⟨d, h2, h3⟩ := h.1 rfl
                    rw [map_evO ha, zDu hgo hl hb] at h2
                    refine ⟨d, _, h3, by rw [zDv, zD7], by rw [zBp]; simpa [zCr] using hl, fun E hE => ⟨oc, ys, hres, ⟨_, ha⟩, ⟨_, hd⟩, .inr ⟨j, b, t, hog, hj, htn, .inl ⟨by rw [hsl, hb], h2 E hE⟩⟩⟩, ?_⟩
                    rw [zDk hd (by simpa [zCr] using hl), zDu hgo hl hb]
                  · have e' : b = (!want) := by cases b <;> cases want <;> simp_all
                    subst e'
                    refine ⟨.skip, _, (h.2 rfl).2, by rw [zDv, zD7], by rw [zBp, zCr]; exact hl, fun E hE => ⟨oc, ys, hres, ⟨_, ha⟩, ⟨_, hd⟩, .inr ⟨j, want, t, hog, hj, htn, .inr (.inl ⟨by rw [hsl, hb], rfl, (h.2 rfl).1 E hE⟩)⟩⟩, ?_⟩
                    rw [zDk hd (by rw [zCr]; exact hl), zDu hgo hl hb]
                case skip =>
                  exact ⟨.skip, _, h.2, zDv _ _ _, by rw [zBp]; exact hl, fun E hE => ⟨oc, ys, hres, ⟨_, ha⟩, ⟨_, hd⟩, .inr ⟨j, want, t, hog, hj, htn, .inr (.inr ⟨by rw [hsl, hb], rfl, h.1 E hE⟩)⟩⟩, zDk hd hl _⟩
theorem opsF_trace {ops : Array Oper} {K : St → Prop} {F : (Nat → Bool) → Hp} : ∀ (len k : Nat) (ros : List RO) (qs : List (RO × Bool)) (s : St), zBq C ops (List.range' k len) = some ros → qs.map (·.1) = ros → s.env.length = C.pers.length → opsF C.M F k qs K s →
    ∃ (ds : Nat → D) (σ : Nat → Nat → D) (s1 : St), K s1 ∧ s1.hp = F (fun j => decide (j < k + len)) ∧ s1.env.length = C.pers.length ∧ σ k = s.slot C.pers ∧ σ (k + len) = s1.slot C.pers ∧
      ∀ i, k ≤ i → i < k + len → ∃ o, ops[i]? = some o ∧ (∀ E : Nat → Bool, E i = false → StepQ C ops (F E) (F (fun j => E j || j == i)) (σ i) o (ds i)) ∧ σ (i + 1) = updO (σ i) o.dst (ds i)
  | 0, k, ros, qs, s, hr, hqs, hl, h => by
    simp [zBq] at hr; subst hr
    have : qs = [] := by simpa using hqs
    subst this
    exact ⟨fun _ => .u0, fun _ => s.slot C.pers, _, h, rfl, hl, rfl, rfl, fun i h1 h2 => by omega⟩
  | len + 1, k, ros, qs, s, hr, hqs, hl, h => by
    rw [List.range'_succ] at hr
    obtain ⟨o, x, xs, ho, h1, h2, rfl⟩ := zCp hr
    cases qs with
    | nil => simp at hqs
    | cons p qs =>
      obtain ⟨x', q⟩ := p
      simp only [List.map_cons, List.cons.injEq] at hqs
      obtain ⟨rfl, hqs⟩ := hqs
      simp only [opsF] at h
      obtain ⟨d, s1, k1, _, k3, k4, k5⟩ := headF_step h1 hl h
      obtain ⟨ds, σ, s2, g1, g2, g3, g4, g5, g6⟩ := opsF_trace len (k + 1) xs qs s1 h2 hqs k3 k1
      refine ⟨fun i => if i = k then d else ds i, fun i => if i = k then s.slot C.pers else σ i, s2, g1, ?_, g3, by simp, ?_, fun i h1 h2 => ?_⟩
      · rw [g2]; congr 1; funext j; congr 1; exact propext ⟨fun _ => by omega, fun _ => by omega⟩
      · have : k + (len + 1) ≠ k := by omega
        simp only [this, if_false]
        rw [← g5]; congr 1; omega
      · by_cases ek : i = k
        · subst ek
          refine ⟨o, ho, ?_, ?_⟩
          · simpa using k4
          · simp [g4, k5]
        · obtain ⟨o', q1, q2, q3⟩ := g6 i (by omega) (by omega)
          have e2 : i + 1 ≠ k := by omega
          exact ⟨o', q1, by simpa [ek] using q2, by simpa [ek, e2] using q3⟩
theorem swp_regDF {Q : Ex → St → Prop} {s : St} {qs : List (RO × Bool)} {ros : List RO} (F : (Nat → Bool) → Hp) (h0 : F (fun _ => false) = s.hp) (h : opsF C.M F 0 qs (fun s1 => opsWp C.M ros (fun s' => Q .normal s'.done) s1) s) : SWp C (.regD qs ros) Q s := by
  refine ⟨fun c hc w0 B hA a w hs => ?_⟩
  have hreg : ∀ id ops d, c = .region id ops d → _ := fun id ops d e => zBw (e ▸ hc)
  cases c <;> (try simp only [zAu] at hc) <;> (try (cases hc; done))
  case region id ops d =>
    rcases hreg _ _ _ rfl with ⟨r, h1, _⟩ | ⟨r, h1, rfl, hB1, hB2, hr⟩ | h1
    · cases h1
    · cases h1
      have hB := And.intro hB1 hB2
      · skip
        rw [List.range_eq_range'] at hr
        have hl : s.env.length = C.pers.length := by obtain ⟨_, _, _, _, _, q, _⟩ := hs; exact q
        have hrl : zCb ops ≤ r.length := by rw [zCj _ _ hr]; simpa using zDt ops
        obtain ⟨ds, σ, s1, k1, k2, k3, k4, k5, k6⟩ := opsF_trace (zCb ops) 0 _ _ s (zFb _ _ 0 _ hr (zDt ops)) (flags_fst hrl) hl h
        have hsig : ∀ i, i ≤ zCb ops → σ i = sig ops (s.slot C.pers) ds (fun _ => true) i := by
          intro i
          induction i with
          | zero => intro _; exact k4
          | succ i ih =>
            intro hi
            obtain ⟨o, q1, _, q3⟩ := k6 i (Nat.zero_le _) (by omega)
            rw [q3, ih (by omega)]
            simp [sig, dstO, q1]
        refine fun ro => wpIn_region_any hB.2 (draw_soundF hA (s := s) (s1 := s1) (K := fun s' => Q .normal s'.done) (ds := ds) (F := F) (m := zCb ops) (ros := r) hB.1 (zDt ops) hr (fun s a w hk hs => ⟨s.done, weak_done _ _ _ _ hs, hk⟩) hl k1 (by rw [k2, Nat.zero_add]) k3 (fun i hi => ?_) ?_ ops.size _ a _ (by simp) ?_ ?_ (.inl ⟨?_, ?_⟩))
        · obtain ⟨o, q1, q2, _⟩ := k6 i (Nat.zero_le _) (by omega)
          rw [hsig i (by omega)] at q2
          exact ⟨o, q1, q2⟩
        · rw [← hsig _ (Nat.le_refl _), ← k5, Nat.zero_add]
        · simp only [unl, Array.toList_replicate]
          exact Nat.le_trans (List.length_filter_le _ _) (by simp)
        · intro j oj hj hlj
          exfalso
          have : (Array.replicate ops.size false).getD j false = false := by
            simp only [Array.getD_eq_getD_getElem?, Array.getElem?_replicate]; split <;> rfl
          rw [this] at hlj; cases hlj
        · intro j hlj
          exfalso
          have : (Array.replicate ops.size false).getD j false = false := by
            simp only [Array.getD_eq_getD_getElem?, Array.getElem?_replicate]; split <;> rfl
          rw [this] at hlj; cases hlj
        · obtain ⟨G, g0, gb, g1, g2, g3, g4⟩ := hs
          have hrep : ∀ j, (Array.replicate ops.size false).getD j false = false := by
            intro j
            simp only [Array.getD_eq_getD_getElem?, Array.getElem?_replicate]; split <;> rfl
          have e1 : sig ops (s.slot C.pers) ds (fun j => (Array.replicate ops.size false).getD j false) (zCb ops) = s.slot C.pers := by
            funext t
            exact zD4 (ops := ops) (σ0 := s.slot C.pers) (ds := ds) (E := fun j => (Array.replicate ops.size false).getD j false) (t := t) (a := 0) (zCb ops) (Nat.zero_le _) (fun j _ _ hE => by
              rw [hrep] at hE; cases hE)
          have e3 : (fun j => (Array.replicate ops.size false).getD j false) = fun _ => false := funext hrep
          rw [e1, e3, h0]
          obtain ⟨q1, q2⟩ := g0.drawn (w.drawn + 1)
          exact ⟨G, q1, gb, g1, g2, fun t => Rel.evo _ q2 (g4 t)⟩
    · cases h1
  all_goals exfalso; (repeat' split at hc) <;> simp_all
end
section
variable {M : Mod} {F : (Nat → Bool) → Hp} {i : Nat} {dst : Dst} {q : Bool} {r : List (RO × Bool)} {K : St → Prop} {s : St} {oc : OC} {args : List Opd}
theorem y_end {hp' : Hp} (hh : F (fun k => decide (k < i)) = hp') (h : K { s with hp := hp' }) : opsF M F i [] K s := by subst hh; exact h
theorem y_op (d : D) (h1 : AnyF M F i oc (args.map s.get) d) (h : opsF M F (i + 1) r K (s.put dst d)) : opsF M F i ((⟨dst, oc, args, none⟩, q) :: r) K s := ⟨d, h1, h⟩
theorem any_still {ds : List D} {d : D} (hF : Still F i) (h : ∀ hp2, OcWp M oc ds hp2 (fun d' hp' => d' = d ∧ hp' = hp2)) : AnyF M F i oc ds d := fun E hE => by rw [hF E hE]; exact h _
theorem y_q {ds : List D} (d : D) (ha : args.map s.get = ds) (hF : Still F i) (ho : ∀ hp2, OcWp M oc ds hp2 (fun d' hp' => d' = d ∧ hp' = hp2)) (h : opsF M F (i + 1) r K (s.put dst d)) : opsF M F i ((⟨dst, oc, args, none⟩, q) :: r) K s :=
  y_op d (by rw [ha]; exact any_still hF ho) h
theorem y_c {ds : List D} {d : D} (ha : args.map s.get = ds) (h1 : AnyF M F i oc ds d) (h : opsF M F (i + 1) r K (s.put dst d)) : opsF M F i ((⟨dst, oc, args, none⟩, q) :: r) K s :=
  y_op d (by rw [ha]; exact h1) h
theorem y_cg {g : Opd} {want : Bool} {ds : List D} {d : D} (hg : s.get g = .bool want) (ha : args.map (s.setO g (.bool want)).get = ds) (h1 : AnyF M F i oc ds d) (h : opsF M F (i + 1) r K ((s.setO g (.bool want)).put dst d)) :
    opsF M F i ((⟨dst, oc, args, some (g, want)⟩, q) :: r) K s := by
  simp only [opsF, headF, hg]
  exact ⟨fun _ => ⟨d, by rw [ha]; exact h1, h⟩, fun e => by cases want <;> cases e⟩
theorem y_qg {g : Opd} {want : Bool} {ds : List D} (d : D) (hg : s.get g = .bool want) (ha : args.map (s.setO g (.bool want)).get = ds) (hF : Still F i) (ho : ∀ hp2, OcWp M oc ds hp2 (fun d' hp' => d' = d ∧ hp' = hp2)) (h : opsF M F (i + 1) r K ((s.setO g (.bool want)).put dst d)) :
    opsF M F i ((⟨dst, oc, args, some (g, want)⟩, q) :: r) K s := y_cg hg ha (any_still hF ho) h
end
end GoV
end
section
set_option linter.unusedSimpArgs false
set_option linter.unusedVariables false
namespace GoV
open Go
theorem zE5 {l : List Nat} {n i : Nat} (h : l.take n = List.range n) (hi : i < n) : l[i]? = some i := by
  have : (l.take n)[i]? = some i := by rw [h]; simp [hi]
  rwa [List.getElem?_take, if_pos hi] at this
def St.sel (s : St) (bl tl : List Nat) : St := ⟨D.rnL (posF bl) (posF tl) s.env, [], s.hp.sel bl tl⟩
theorem zDh {C : Cfg} {s : St} (bl tl : List Nat) (hs : SelOk s.hp bl tl) (hb : bl.take C.n0 = List.range C.n0) (ht : tl.take C.m0 = List.range C.m0) : Weak C s (s.sel bl tl) := by
  intro w0 B a w h
  obtain ⟨G, g0, gb, g1, g2, g3, g4⟩ := h
  have h0 := g0.heap
  obtain ⟨_, r2⟩ := zD8 (l := G.r) (bl := bl) fun b hb => by rw [← h0.len]; exact hs.bl_ b hb
  obtain ⟨_, t2⟩ := zD8 (l := G.tk) (bl := tl) fun b hb => by rw [← h0.lent]; exact hs.tl_ b hb
  have hr := Ren.sel h0 hs
  have hinv : Inv w0 B (s.sel bl tl).hp w (G.sel bl tl) := by
    refine g0.ghost (h0.sel hs) ⟨fun b o ho => g0.evo.imm b o ho, fun b n hbn => ?_, fun t T hT => ?_⟩ (fun n hn => ?_) (fun n hn => ?_) fun b o ho => .inl ho
    · have e : bl[b]? = some b := zE5 hb (by rw [← gb.1]; exact zAd hbn)
      exact (r2 b b e).trans (g0.evo.ref b n hbn)
    · have e : tl[t]? = some t := zE5 ht (by rw [← gb.2]; exact zAd hT)
      obtain ⟨T', q1, q2⟩ := g0.evo.tok t T hT
      exact ⟨T', (t2 t t e).trans q1, q2⟩
    · obtain ⟨c, _, hc⟩ := zB9 hn
      exact .inl (List.mem_of_getElem? hc)
    · obtain ⟨U, hU, hUb⟩ := mem_blks.1 hn
      obtain ⟨u, _, hu⟩ := zB9 hU
      exact .inl (mem_blks.2 ⟨U, List.mem_of_getElem? hu, hUb⟩)
  refine ⟨G.sel bl tl, hinv, gb, g1, g2, by simpa [St.sel, zEx] using g3, fun t => ?_⟩
  have := g4 t
  unfold St.slot at *
  split
  · rename_i i hi
    rw [hi] at this
    simp only [St.sel, rnL_getD]
    exact Rel.rn _ hr this
  · simp [St.sel, lk, Rel]
def St.toSl (s : St) (i t k n cap : Nat) (cs : List D) : St := ⟨s.env.set i (.sl s.hp.H.length k 0 n cap), [], ⟨s.hp.H ++ [.cells cs], s.hp.tk.set t (.per k (n + 1))⟩⟩
theorem relL_undef {w : World} {g : Gh} : ∀ (xs : List Value), RelL w g (List.replicate xs.length .u0) xs
  | [] => RelL.nil
  | x :: xs => by
    simp only [List.length_cons, List.replicate_succ]
    exact RelL.cons (by simp [Rel]) (relL_undef xs)
theorem swp_sl {C : Cfg} {rc : RC} {Q : Ex → St → Prop} {s : St} (i t k n : Nat) (cs : List D) (hs : s.env.getD i .u0 = .gs t n) (hb : s.hp.tk[t]? = some (.chg k cs)) (hl : cs.length = n * k) (hm : C.m0 = 0) (hn : 0 < n)
    (h : ∀ cap, n ≤ cap → SWp C rc Q (s.toSl i t k n cap (cs ++ List.replicate ((cap - n) * k) .u0))) : SWp C rc Q s := by
  refine ⟨fun c hc w0 B hA a w hsim => ?_⟩
  obtain ⟨G, g0, gb, g1, g2, g3, g4⟩ := hsim
  have h0 := g0.heap
  obtain ⟨T, hT, ⟨hk, hcl, hz, hv⟩, hok⟩ := h0.tokBlk hb
  have hTm := List.mem_of_getElem? hT
  subst hk
  have hnT : n = T.len := Nat.eq_of_mul_eq_mul_right hok.1 (hl.symm.trans hcl)
  subst hnT
  obtain ⟨b, hbT⟩ : ∃ b, T.blk = some b := by
    cases e : T.blk with
    | none => have := (hz e).1; omega
    | some b => exact ⟨b, rfl⟩
  obtain ⟨hnI, xs, e, x1, x2⟩ := hv b hbT
  obtain ⟨ad, hbr, hlc, xs', e', y1, y2, y3⟩ := hok.2.2 b hbT
  rw [x1] at y1
  simp only [Option.some.injEq, Obj.cells.injEq] at y1
  obtain ⟨rfl, rfl, _⟩ := y1
  have hxl : xs.toList.length = T.cap * T.k := by rw [Array.length_toList, y2]
  have hle : T.len * T.k ≤ T.cap * T.k := Nat.mul_le_mul_right _ hlc
  have hrest : (xs.toList.drop (T.len * T.k)).length = (T.cap - T.len) * T.k := by rw [List.length_drop, hxl, Nat.sub_mul]
  have hnew : w0.heap.size ≤ b := by
    rcases g0.newt b (mem_blks.2 ⟨T, hTm, hbT⟩) with q | q
    · have : B.tk = [] := List.eq_nil_of_length_eq_zero (by rw [gb.2, hm])
      rw [this] at q; simp [blks] at q
    · exact q
  have hbl : b < w.heap.size := (h0.tok T hTm).lt hbT
  let T' : Tk := ⟨none, none, T.len + 1, T.k, T.len + 1⟩
  let G' : Gh := ⟨G.r ++ [b], G.tk.set t T', G.I⟩
  have htl : t < G.tk.length := zAd hT
  have he : Evo w G w G' := by
    refine ⟨fun c o ho => ⟨ho, rfl⟩, fun c m hc => ?_, fun u U hU => ?_⟩
    · show (G.r ++ [b])[c]? = some m
      rw [List.getElem?_append_left (zAd hc)]; exact hc
    · by_cases e : t = u
      · subst e
        rw [hT] at hU; cases hU
        exact ⟨T', by simp [G', htl], rfl, .inr (Nat.lt_succ_self _)⟩
      · exact ⟨U, by simp [G', List.getElem?_set, e, hU], rfl, .inl rfl⟩
  have getT : ∀ (u : Nat) (U : Tk), G'.tk[u]? = some U → (u = t ∧ U = T') ∨ (u ≠ t ∧ G.tk[u]? = some U) := by
    intro u U hU
    simp only [G', List.getElem?_set] at hU
    by_cases e : t = u
    · subst e; simp [htl] at hU; exact .inl ⟨rfl, hU.symm⟩
    · rw [if_neg e] at hU; exact .inr ⟨fun q => e q.symm, hU⟩
  have notb : ∀ (u : Nat) (U : Tk) (m : Nat), u ≠ t → G.tk[u]? = some U → U.blk = some m → m ≠ b := fun u U m hu hU hm q => by
    subst q
    exact hu (zDs h0.tokd hU hT hm hbT)
  have hh : HeapRel w G' ⟨s.hp.H ++ [.cells (cs ++ List.replicate ((T.cap - T.len) * T.k) .u0)], s.hp.tk.set t (.per T.k (T.len + 1))⟩ := by
    refine ⟨by simp [G', h0.len], fun c C' m hC hm => ?_, fun m hm => ?_, ?_, by simp [G', h0.lent], fun u V U hV hU => ?_, fun U hU => ?_, ?_, fun c o ho => ⟨(h0.imm c o ho).1, fun j hj => ?_⟩⟩
    · rcases Nat.lt_or_ge c s.hp.H.length with q | q
      · simp only [List.getElem?_append_left q] at hC
        have hm' : G.r[c]? = some m := by
          have : (G.r ++ [b])[c]? = some m := hm
          rwa [List.getElem?_append_left (by rw [← h0.len]; exact q)] at this
        exact (h0.blk c C' m hC hm').evo he
      · simp only [List.getElem?_append_right q] at hC
        have hc0 : c - s.hp.H.length = 0 := by
          have := zAd hC; simp at this; omega
        rw [hc0] at hC; simp at hC; subst hC
        have hm' : (G.r ++ [b])[c]? = some m := hm
        rw [List.getElem?_append_right (by rw [← h0.len]; exact q), ← h0.len, hc0] at hm'
        simp at hm'; subst hm'
        refine ⟨xs.toList, e, by simpa using x1, ?_, y3⟩
        have hr := (x2.append (relL_undef (xs.toList.drop (T.len * T.k))))
        rw [List.take_append_drop, hrest] at hr
        exact RelL.evo _ he hr
    · rcases List.mem_append.1 hm with q | q
      · exact h0.lt m q
      · simp at q; subst q; exact hbl
    · show (G.r ++ [b]).Nodup
      rw [List.nodup_append]
      refine ⟨h0.nodup, by simp, fun x hx y hy q => ?_⟩
      simp at hy; subst hy; subst q; exact hbr hx
    · rcases getT u U hU with ⟨rfl, rfl⟩ | ⟨q1, q2⟩
      · have : V = .per T.k (T.len + 1) := by
          have hl' : u < s.hp.tk.length := by rw [h0.lent]; exact htl
          simp [hl'] at hV; exact hV.symm
        subst this
        exact ⟨rfl, rfl, fun b' hb' => by simp [T'] at hb'⟩
      · have hV' : s.hp.tk[u]? = some V := by
          simp only [List.getElem?_set] at hV
          rwa [if_neg (fun q => q1 q.symm)] at hV
        exact (h0.tv u V U hV' q2).evo he (fun _ _ _ ho => ho) fun _ _ => rfl
    · obtain ⟨u, hu⟩ := List.mem_iff_getElem?.1 hU
      rcases getT u U hu with ⟨rfl, rfl⟩ | ⟨q1, q2⟩
      · exact ⟨hok.1, fun _ => rfl, fun b' hb' => by simp [T'] at hb'⟩
      · refine (h0.tok U (List.mem_of_getElem? q2)).keep (fun _ _ => rfl) fun m hm hmr hmr' => ?_
        rcases List.mem_append.1 hmr' with p | p
        · exact hmr p
        · simp at p; exact notb u U m q1 q2 hm p
    · refine nodup_blks fun i j U V m hi hj hU hV => ?_
      rcases getT i U hi with ⟨rfl, rfl⟩ | ⟨q1, q2⟩
      · simp [T'] at hU
      · rcases getT j V hj with ⟨rfl, rfl⟩ | ⟨p1, p2⟩
        · simp [T'] at hV
        · exact zDs h0.tokd q2 p2 hU hV
    · have hj' : (G.r ++ [b])[j]? = some c := hj
      rcases Nat.lt_or_ge j G.r.length with q | q
      · rw [List.getElem?_append_left q] at hj'
        show (s.hp.H ++ _)[j]? = _
        rw [List.getElem?_append_left (by rw [h0.len]; exact q)]
        exact (h0.imm c o ho).2 j hj'
      · exfalso
        rw [List.getElem?_append_right q] at hj'
        have := List.mem_of_getElem? hj'
        simp at this; subst this
        exact hnI o ho
  have hinv : Inv w0 B ⟨s.hp.H ++ [.cells (cs ++ List.replicate ((T.cap - T.len) * T.k) .u0)], s.hp.tk.set t (.per T.k (T.len + 1))⟩ w G' := by
    refine g0.ghost hh (g0.evo.trans he) (fun m hm => ?_) (fun m hm => ?_) fun c o ho => .inl ho
    · rcases List.mem_append.1 hm with q | q
      · exact .inl q
      · simp at q; subst q; exact .inr hnew
    · obtain ⟨U, hU, hUb⟩ := mem_blks.1 hm
      obtain ⟨u, hu⟩ := List.mem_iff_getElem?.1 hU
      rcases getT u U hu with ⟨rfl, rfl⟩ | ⟨q1, q2⟩
      · simp [T'] at hUb
      · exact .inl (mem_blks.2 ⟨U, List.mem_of_getElem? q2, hUb⟩)
  refine (h T.cap hlc).run c hc w0 B hA a w ⟨G', hinv, gb, g1, g2, by simpa [St.toSl] using g3, fun u => ?_⟩
  have := g4 u
  unfold St.slot at *
  split
  · rename_i j hj
    rw [hj] at this
    simp only at this ⊢
    by_cases e : i = j
    · subst e
      rw [hs] at this
      have hlt : i < s.env.length := by
        rcases Nat.lt_or_ge i s.env.length with q | q
        · exact q
        · simp [List.getD, List.getElem?_eq_none q] at hs
      simp only [Rel] at this
      obtain ⟨ad', cap', T1, p1, p2, p3, p4, p5⟩ := this
      rw [hT] at p3; cases p3
      obtain ⟨rfl, rfl, _⟩ := p5 rfl
      have e1 : (s.toSl i t T.k T.len T.cap (cs ++ List.replicate ((T.cap - T.len) * T.k) .u0)).env.getD i .u0 = .sl s.hp.H.length T.k 0 T.len T.cap := by
        simp [St.toSl, List.getD, hlt]
      rw [e1]
      simp only [Rel]
      refine ⟨b, 0, ?_, by rw [p1, ad], fun _ => rfl⟩
      show (G.r ++ [b])[_]? = _
      rw [h0.len, List.getElem?_append_right (Nat.le_refl _)]; simp
    · have e1 : (s.toSl i t T.k T.len T.cap (cs ++ List.replicate ((T.cap - T.len) * T.k) .u0)).env.getD j .u0 = s.env.getD j .u0 := by
        simp [St.toSl, List.getD, List.getElem?_set, e]
      rw [e1]
      exact Rel.evo _ he this
  · simp [St.toSl, lk, Rel]
end GoV
end
section
set_option linter.unusedSimpArgs false
set_option linter.unusedVariables false
namespace GoV
open Go
theorem call_same {M : Mod} {f : FuncId} {first cap args : List D} {hp : Hp} {K R : D → Hp → Prop} (h : Eff M f (first ++ args ++ cap) hp R) (hk : ∀ d hp1, R d hp1 → K d hp1) : CallOp M (.fn (.func f) first cap :: args) hp K := by
  intro w0 B w G vs hA hi hr
  obtain ⟨fv, av, rfl, h1, h2⟩ := hr.inv
  simp only [Rel] at h1
  obtain ⟨xs, ys, rfl, h3, h4⟩ := h1
  refine .inl ⟨f, xs.toArray, ys.toArray, av, rfl, h.1, ?_⟩
  have hamb : M.amb w G.own := M.up _ _ _ _ hA.1 hi.keeps fun n hn => hi.new n hn
  have hcall := h.2 w G (xs ++ av ++ ys) hamb hi.heap ((h3.append h2).append h4)
  have e : (xs.toArray ++ av.toArray ++ ys.toArray) = (xs ++ av ++ ys).toArray := by simp
  rw [e]
  refine Calls.mono hcall fun e w' hp' => ?_
  obtain ⟨v, d, hp1, g1, rfl, hR, g3, g4⟩ := hp'
  exact ⟨v, d, hp1, g1, rfl, hk d hp1 hR, hi.join g3, g3.evo, g4⟩
mutual
def D.nn : D → D
  | .slice es o => .slice (D.nnL es) o
  | .agg cs => .agg (D.nnL cs)
  | .tup vs => .tup (D.nnL vs)
  | .lit (.slice none 0 0) => .slice [] .no
  | d => d
def D.nnL : List D → List D
  | [] => []
  | d :: ds => D.nn d :: D.nnL ds
end
mutual
theorem Rel.nn {w : World} {g : Gh} : ∀ (d : D) {x : Value}, Rel w g d x → Rel w g d.nn x
  | .slice es o, x, h => by
    simp only [D.nn]
    simp only [Rel] at h ⊢
    have hl : (D.nnL es).length = es.length := nnL_length es
    obtain ⟨a, cap, k, xs, h1, h2, h3, h4, h5, h6⟩ := h
    refine ⟨a, cap, k, xs, ?_, by rw [hl]; exact h2, RelL.nn es h3, h4, h5, by rw [hl]; exact h6⟩
    rcases h1 with h1 | ⟨h1, rfl, h8⟩
    · exact .inl (by rw [hl]; exact h1)
    · exact .inr ⟨h1, rfl, h8⟩
  | .agg cs, x, h => by
    simp only [D.nn]
    simp only [Rel] at h ⊢
    obtain ⟨xs, h1, h2, h3⟩ := h
    exact ⟨xs, h1, RelL.nn cs h2, h3⟩
  | .tup cs, x, h => by
    simp only [D.nn]
    simp only [Rel] at h ⊢
    obtain ⟨xs, h1, h2⟩ := h
    exact ⟨xs, h1, RelL.nn cs h2⟩
  | .lit v, x, h => by
    unfold D.nn
    split
    · simp_all
    · simp_all
    · simp_all
    · rename_i e
      simp only [D.lit.injEq] at e
      subst e
      simp only [Rel] at h ⊢
      obtain ⟨rfl, _⟩ := h
      exact ⟨⟨0, 0, none⟩, 0, 0, [], .inr ⟨by simp, by simp, rfl⟩, by simp, RelL.nil, by simp, At.nil, trivial⟩
    · exact h
  | .u0, x, h => h
  | .skip, x, h => h
  | .int _ _, x, h => h
  | .bool _, x, h => h
  | .str _, x, h => h
  | .iface _ _, x, h => h
  | .fn _ _ _, x, h => h
  | .ptr _ _, x, h => h
  | .ip _, x, h => h
  | .sl _ _ _ _ _, x, h => h
  | .gs _ _, x, h => h
  | .gp _ _ _, x, h => h
  | .mp _, x, h => h
theorem RelL.nn {w : World} {g : Gh} : ∀ (ds : List D) {xs : List Value}, RelL w g ds xs → RelL w g (D.nnL ds) xs
  | [], xs, h => h
  | d :: ds, xs, h => by
    obtain ⟨y, ys, rfl, h1, h2⟩ := h.inv
    exact RelL.cons (Rel.nn d h1) (RelL.nn ds h2)
theorem nnL_length : ∀ ds : List D, (D.nnL ds).length = ds.length
  | [] => rfl
  | d :: ds => by simp [D.nnL, nnL_length ds]
end
theorem pur_args {M : Mod} {f : FuncId} {args args' : List D} {d : D} (h : Pur M f args' d) (e : D.nnL args = args') : Pur M f args d :=
  ⟨h.1, fun w g xs hA hh hr => h.2 w g xs hA hh (e ▸ RelL.nn args hr)⟩
theorem zF4 {M : Mod} {f : FuncId} {args args' : List D} {hp : Hp} {R : D → Hp → Prop} (h : Eff M f args' hp R) (e : D.nnL args = args') : Eff M f args hp R :=
  ⟨h.1, fun w g xs hA hh hr => h.2 w g xs hA hh (e ▸ RelL.nn args hr)⟩
theorem pur_res {M : Mod} {f : FuncId} {args : List D} {d d' : D} (h : Pur M f args d) (e : d.nn = d') : Pur M f args d' :=
  ⟨h.1, fun w g xs hA hh hr => Calls.mono (h.2 w g xs hA hh hr) fun en w' ⟨v, d1, hp1, g1, e1, ⟨e2, e3⟩, h1, h2⟩ => ⟨v, d', hp1, g1, e1, ⟨rfl, e3⟩, h1, by subst e2; subst e; exact Rel.nn _ h2⟩⟩
theorem eff_of_pur {M : Mod} {f : FuncId} {args : List D} {d : D} {hp : Hp} (hc : D.cL args = true) (h : Pur M f (D.erL args) d) : Eff M f args hp fun d' hp' => d' = d ∧ hp' = hp := by
  refine ⟨h.1, fun w g xs hA hh hr => ?_⟩
  have hs : SelOk hp [] [] := ⟨by simp, by simp, by simp, by simp⟩
  have hi := Inv.refl' hh
  have hall := RelL.closed _ hc hr
  have hhs := hi.heap.sel hs
  have e0 : g.sel [] [] = g.cl := rfl
  have e1 : hp.sel [] [] = ⟨[], []⟩ := rfl
  rw [e0, e1] at hhs
  have hcall := h.2 w g.cl xs (M.up _ _ _ _ hA hi.keeps fun n hn => by simp [Gh.own, Gh.cl, blks] at hn) hhs hall
  refine Calls.mono hcall fun e w' hp' => ?_
  obtain ⟨v, d', hp1, g1, rfl, ⟨rfl, rfl⟩, g3, g4⟩ := hp'
  rw [← e0] at g3
  obtain ⟨q1, q2, q3⟩ := hi.back hs g3
  have e2 : hp.back [] [] ⟨[], []⟩ = hp := by
    obtain ⟨H, tk⟩ := hp
    simp [Hp.back, putAt, Blk.rnL, Tv.rnL]
  rw [e2] at q1
  refine ⟨v, d', hp, _, rfl, ⟨rfl, rfl⟩, q1, ?_⟩
  have hg1 : g1 = (g.back [] [] g1).cl := by
    have a1 := g3.heap.len
    have a2 := g3.heap.lent
    obtain ⟨r, tk, I⟩ := g1
    have b1 : r = [] := List.eq_nil_of_length_eq_zero a1.symm
    have b2 : tk = [] := List.eq_nil_of_length_eq_zero a2.symm
    subst b1; subst b2; rfl
  have this : Rel w' (g.back [] [] g1).cl d' v := hg1 ▸ g4
  exact this.any
section
variable {P : Mod} {dst : Dst} {r : List RO} {rq : List (RO × Bool)} {K : St → Prop} {s : St} {ds : List D}
theorem o_callN {f : FuncId} {first cap : List D} {d : D} {ds' : List D} (h : Pur P f ds' d) (he : D.nnL (D.erL (first ++ ds ++ cap)) = ds') (hc : D.cL (first ++ ds ++ cap) = true) (hk : opsWp P r K (s.put dst d)) :
    OpS P .call (.fn (.func f) first cap :: ds) dst r K s := zAb (pur_args h he) rfl hc hk
theorem zBs {f : FuncId} {first cap args : List D} {hp0 hp1 : Hp} {d : D} (h : Eff P f args hp0 fun d' hp' => d' = d ∧ hp' = hp1) (he : first ++ ds ++ cap = args) (hh : s.hp = hp0)
    (hk : opsWp P r K ({ s with hp := hp1 }.put dst d)) : OpS P .call (.fn (.func f) first cap :: ds) dst r K s := by
  unfold OpS OcWp
  simp only [zAc, if_true]
  subst he; subst hh
  exact call_same h (by rintro d' hp' ⟨rfl, rfl⟩; exact hk)
end
end GoV
end
section
set_option linter.unusedSimpArgs false
set_option linter.unusedVariables false
namespace GoV
open Go
theorem eff_cut {M : Mod} {f : FuncId} {args : List D} {hp hp1 hp2 : Hp} {d0 d1 : D} (n m : Nat) (h : Eff M f args hp fun d h => d = d0 ∧ h = hp1) (hn : hp.H.length ≤ n) (hm : hp.tk.length ≤ m)
    (ed : d0.rn (cutF n) (cutF m) = d1) (eh : hp1.cut n m = hp2) : Eff M f args hp fun d h => d = d1 ∧ h = hp2 := by
  refine ⟨h.1, fun w g xs hA hh hr => Calls.mono (h.2 w g xs hA hh hr) fun e w' ⟨v, d, hp', g', e1, ⟨e2, e3⟩, h1, h2⟩ => ?_⟩
  subst e2; subst e3
  exact ⟨v, _, _, g'.cut n m, e1, ⟨ed, eh⟩, h1.cut n m (by rw [← hh.len]; exact hn) (by rw [← hh.lent]; exact hm), Rel.rn _ (Ren.cut g' n m) h2⟩
end GoV
end
section
set_option linter.unusedSimpArgs false
set_option linter.unusedVariables false
namespace GoV
open Go
section
variable {C : Cfg} {x y : RC} {s s' : St} {i j : Nat}
theorem zAn (hne : j ≠ i) (hx : ∀ Q : Ex → St → Prop, Q (.exit j) s' → SWp C x Q s) : ∀ Q : Ex → St → Prop, Q (.exit j) s' → SWp C (.seq (.block i x) y) Q s :=
  fun Q h => swp_seq (zC7 (hx _ (by simp only [hne, if_false]; exact h)))
theorem zFu (hx : ∀ Q : Ex → St → Prop, Q (.exit i) s' → SWp C x Q s) : ∀ Q : Ex → St → Prop, SWp C y Q s' → SWp C (.seq (.block i x) y) Q s :=
  fun Q h => swp_seq (zC7 (hx _ (by simp only [if_true]; exact h)))
theorem px_norm (hx : ∀ Q : Ex → St → Prop, Q .normal s' → SWp C x Q s) : ∀ Q : Ex → St → Prop, SWp C y Q s' → SWp C (.seq (.block i x) y) Q s :=
  fun Q h => swp_seq (zC7 (hx _ h))
theorem zA2 {T : (St → Prop) → Prop} (hx : ∀ Q : Ex → St → Prop, T (Q .ret) → SWp C x Q s) : ∀ Q : Ex → St → Prop, T (Q .ret) → SWp C (.seq (.block i x) y) Q s :=
  fun Q h => swp_seq (zC7 (hx _ h))
theorem zFt {T : (St → Prop) → Prop} (hx : ∀ Q : Ex → St → Prop, T (Q .ret) → SWp C x Q s) : ∀ Q : Ex → St → Prop, T (Q .ret) → SWp C (.block i x) Q s :=
  fun Q h => zC7 (hx _ h)
theorem px_out (hx : ∀ Q : Ex → St → Prop, Q (.exit i) s' → SWp C x Q s) : ∀ Q : Ex → St → Prop, Q .normal s' → SWp C (.block i x) Q s :=
  fun Q h => zC7 (hx _ (by simp only [if_true]; exact h))
def RetT (C : Cfg) (y : RC) (s : St) (R : St → Prop) : Prop := SWp C y (fun e s => match e with | .ret => R s | _ => False) s
theorem ret_t (hx : ∀ Q : Ex → St → Prop, SWp C y Q s' → SWp C x Q s) : ∀ Q : Ex → St → Prop, RetT C y s' (Q .ret) → SWp C x Q s :=
  fun Q h => hx Q (zC5 h fun e s1 hq => ⟨s1, zAh, by cases e <;> first | exact hq | exact hq.elim⟩)
end
end GoV
end
section
set_option linter.unusedSimpArgs false
set_option linter.unusedVariables false
namespace GoV
open Go
def oneC0 (M : Mod) (n m : Nat) : Cfg := ⟨M, [0], 1, n, m, []⟩
theorem eff_weak {M : Mod} {f : FuncId} {args : List D} {hp : Hp} {R R' : D → Hp → Prop} (h : Eff M f args hp R)
    (hw : ∀ d h, R d h → ∃ d' h', Weak (oneC0 M hp.H.length hp.tk.length) ⟨[d], [], h⟩ ⟨[d'], [], h'⟩ ∧ R' d' h') : Eff M f args hp R' := by
  refine ⟨h.1, fun w g xs hA hh hr => Calls.mono (h.2 w g xs hA hh hr) fun e w' ⟨v, d, hp', g', e1, e2, h1, h2⟩ => ?_⟩
  obtain ⟨d1, hp1, k1, k2⟩ := hw d hp' e2
  have hs : Sim (oneC0 M hp.H.length hp.tk.length) w g ⟨[d], [], hp'⟩ ⟨#[v], []⟩ w' := by
    refine ⟨g', h1, ⟨hh.len.symm, hh.lent.symm⟩, rfl, rfl, rfl, fun t => ?_⟩
    cases t with
    | zero => exact h2
    | succ t => simp [St.slot, oneC0, idx, lk, Rel]
  obtain ⟨g2, q1, _, _, _, _, q2⟩ := k1 w g _ w' hs
  exact ⟨v, d1, hp1, g2, e1, k2, q1, q2 0⟩
end GoV
end
section
set_option linter.unusedSimpArgs false
set_option linter.unusedVariables false
namespace GoV
open Go
inductive SWi (C : Cfg) : RC → (Ex → St → Prop) → St → Prop
  | seq {x y : RC} {Q : Ex → St → Prop} {s : St} (h : SWp C x (fun e s' => match e with | .normal => SWp C y Q s' | e => Q e s') s) : SWi C (.seq x y) Q s
  | reg {ros : List RO} {Q : Ex → St → Prop} {s : St} (h : opsWp C.M ros (fun s' => Q .normal s'.done) s) : SWi C (.reg ros) Q s
  | regD {qs : List (RO × Bool)} {ros : List RO} {Q : Ex → St → Prop} {s : St} (h : opsQ C.M qs (fun s1 => opsWp C.M ros (fun s' => Q .normal s'.done) s1) s) : SWi C (.regD qs ros) Q s
  | block {id : Nat} {x : RC} {Q : Ex → St → Prop} {s : St} (h : SWp C x (fun e s' => match e with | .exit i => if i = id then Q .normal s' else Q (.exit i) s' | e => Q e s') s) : SWi C (.block id x) Q s
  | exit {id : Nat} {Q : Ex → St → Prop} {s : St} (h : Q (.exit id) s) : SWi C (.exit id) Q s
  | ret {Q : Ex → St → Prop} {s : St} (h : Q .ret s) : SWi C .ret Q s
  | skip {Q : Ex → St → Prop} {s : St} (h : Q .normal s) : SWi C .skip Q s
  | cd {g : Opd} {x y : RC} {Q : Ex → St → Prop} {s : St} (h : CdS C (s.get g) g x y Q s) : SWi C (.cond g x y) Q s
theorem swq {C : Cfg} {rc : RC} {Q : Ex → St → Prop} {s : St} (h : SWi C rc Q s) : SWp C rc Q s := by
  cases h with
  | seq h => exact swp_seq h
  | reg h => exact swp_reg h
  | regD h => exact swp_regD h
  | block h => exact zC7 h
  | exit h => exact swp_exit h
  | ret h => exact swp_ret h
  | skip h => exact swp_skip h
  | cd h => exact swp_cd h
inductive CdI (C : Cfg) : D → Opd → RC → RC → (Ex → St → Prop) → St → Prop
  | dec {p : Prop} {_ : Decidable p} {g : Opd} {x y : RC} {Q : Ex → St → Prop} {s : St} (h1 : p → SWp C x Q (s.setO g (.bool true))) (h2 : ¬p → SWp C y Q (s.setO g (.bool false))) : CdI C (.bool (decide p)) g x y Q s
  | eq {a b : Int} {g : Opd} {x y : RC} {Q : Ex → St → Prop} {s : St} (h1 : a = b → SWp C x Q (s.setO g (.bool true))) (h2 : a ≠ b → SWp C y Q (s.setO g (.bool false))) : CdI C (.bool (a == b)) g x y Q s
  | ne {a b : Int} {g : Opd} {x y : RC} {Q : Ex → St → Prop} {s : St} (h1 : a ≠ b → SWp C x Q (s.setO g (.bool true))) (h2 : a = b → SWp C y Q (s.setO g (.bool false))) : CdI C (.bool (a != b)) g x y Q s
  | any {c : Bool} {g : Opd} {x y : RC} {Q : Ex → St → Prop} {s : St} (h1 : c = true → SWp C x Q (s.setO g (.bool true))) (h2 : c = false → SWp C y Q (s.setO g (.bool false))) : CdI C (.bool c) g x y Q s
theorem cA {C : Cfg} {b : D} {g : Opd} {x y : RC} {Q : Ex → St → Prop} {s : St} (h : CdI C b g x y Q s) : CdS C b g x y Q s := by
  cases h with
  | dec h1 h2 => exact cd_split (fun h => h1 (of_decide_eq_true h)) (fun h => h2 (of_decide_eq_false h))
  | eq h1 h2 => exact cd_split (fun h => h1 (by simpa using h)) (fun h => h2 (by simpa using h))
  | ne h1 h2 => exact cd_split (fun h => h1 (by simpa using h)) (fun h => h2 (by simpa using h))
  | any h1 h2 => exact cd_split h1 h2
inductive GdI (P : Mod) : D → Opd → Bool → Dst → OC → List Opd → List RO → (St → Prop) → St → Prop
  | dec {p : Prop} {_ : Decidable p} {g : Opd} {want : Bool} {dst : Dst} {oc : OC} {args : List Opd} {r : List RO} {K : St → Prop} {s : St} (h1 : p → GdS P (.bool true) g want dst oc args r K s) (h2 : ¬p → GdS P (.bool false) g want dst oc args r K s) : GdI P (.bool (decide p)) g want dst oc args r K s
  | eq {a b : Int} {g : Opd} {want : Bool} {dst : Dst} {oc : OC} {args : List Opd} {r : List RO} {K : St → Prop} {s : St} (h1 : a = b → GdS P (.bool true) g want dst oc args r K s) (h2 : a ≠ b → GdS P (.bool false) g want dst oc args r K s) : GdI P (.bool (a == b)) g want dst oc args r K s
  | ne {a b : Int} {g : Opd} {want : Bool} {dst : Dst} {oc : OC} {args : List Opd} {r : List RO} {K : St → Prop} {s : St} (h1 : a ≠ b → GdS P (.bool true) g want dst oc args r K s) (h2 : a = b → GdS P (.bool false) g want dst oc args r K s) : GdI P (.bool (a != b)) g want dst oc args r K s
  | any {c : Bool} {g : Opd} {want : Bool} {dst : Dst} {oc : OC} {args : List Opd} {r : List RO} {K : St → Prop} {s : St} (h1 : c = true → GdS P (.bool true) g want dst oc args r K s) (h2 : c = false → GdS P (.bool false) g want dst oc args r K s) : GdI P (.bool c) g want dst oc args r K s
theorem gA {P : Mod} {b : D} {g : Opd} {want : Bool} {dst : Dst} {oc : OC} {args : List Opd} {r : List RO} {K : St → Prop} {s : St} (h : GdI P b g want dst oc args r K s) : GdS P b g want dst oc args r K s := by
  cases h with
  | dec h1 h2 => exact gd_split (fun h => h1 (of_decide_eq_true h)) (fun h => h2 (of_decide_eq_false h))
  | eq h1 h2 => exact gd_split (fun h => h1 (by simpa using h)) (fun h => h2 (by simpa using h))
  | ne h1 h2 => exact gd_split (fun h => h1 (by simpa using h)) (fun h => h2 (by simpa using h))
  | any h1 h2 => exact gd_split h1 h2
inductive GqI (P : Mod) (qf : Bool) : D → Opd → Bool → Dst → OC → List Opd → List (RO × Bool) → (St → Prop) → St → Prop
  | dec {p : Prop} {_ : Decidable p} {g : Opd} {want : Bool} {dst : Dst} {oc : OC} {args : List Opd} {r : List (RO × Bool)} {K : St → Prop} {s : St} (h1 : p → GdQ P qf (.bool true) g want dst oc args r K s) (h2 : ¬p → GdQ P qf (.bool false) g want dst oc args r K s) : GqI P qf (.bool (decide p)) g want dst oc args r K s
  | eq {a b : Int} {g : Opd} {want : Bool} {dst : Dst} {oc : OC} {args : List Opd} {r : List (RO × Bool)} {K : St → Prop} {s : St} (h1 : a = b → GdQ P qf (.bool true) g want dst oc args r K s) (h2 : a ≠ b → GdQ P qf (.bool false) g want dst oc args r K s) : GqI P qf (.bool (a == b)) g want dst oc args r K s
  | ne {a b : Int} {g : Opd} {want : Bool} {dst : Dst} {oc : OC} {args : List Opd} {r : List (RO × Bool)} {K : St → Prop} {s : St} (h1 : a ≠ b → GdQ P qf (.bool true) g want dst oc args r K s) (h2 : a = b → GdQ P qf (.bool false) g want dst oc args r K s) : GqI P qf (.bool (a != b)) g want dst oc args r K s
  | any {c : Bool} {g : Opd} {want : Bool} {dst : Dst} {oc : OC} {args : List Opd} {r : List (RO × Bool)} {K : St → Prop} {s : St} (h1 : c = true → GdQ P qf (.bool true) g want dst oc args r K s) (h2 : c = false → GdQ P qf (.bool false) g want dst oc args r K s) : GqI P qf (.bool c) g want dst oc args r K s
theorem qA {P : Mod} {qf : Bool} {b : D} {g : Opd} {want : Bool} {dst : Dst} {oc : OC} {args : List Opd} {r : List (RO × Bool)} {K : St → Prop} {s : St} (h : GqI P qf b g want dst oc args r K s) : GdQ P qf b g want dst oc args r K s := by
  cases h with
  | dec h1 h2 => exact gq_split (fun h => h1 (of_decide_eq_true h)) (fun h => h2 (of_decide_eq_false h))
  | eq h1 h2 => exact gq_split (fun h => h1 (by simpa using h)) (fun h => h2 (by simpa using h))
  | ne h1 h2 => exact gq_split (fun h => h1 (by simpa using h)) (fun h => h2 (by simpa using h))
  | any h1 h2 => exact gq_split h1 h2
structure FnOk (M : Mod) (f : FuncId) (na : Nat) (fn : Func) (E : Nat → Nat → Cfg) (rc : RC) (rs : List RR) : Prop where
  c : ∀ n m, (E n m).M = M ∧ (E n m).n0 = n ∧ (E n m).m0 = m ∧ (E n m).dfs = [] ∧ fn.ntmps = (E n m).nt ∧ (E n m).pers.take na = List.range na ∧ na ≤ (E n m).nt
  hf : M.P.funcs[f]? = some fn
  hb : fn.body = some (fn.body.getD .skip)
  z : ∀ n m, zAu (E n m) (fn.body.getD .skip) = some rc
  zr : ∀ n m, resRs (E n m) fn.results.toList = some rs
  nm : (fn.name == "runtime.NumGoroutine") = false
  bs : ∀ w g, M.base w g
theorem fnOk {M : Mod} {f : FuncId} {na : Nat} {fn : Func} {E : Nat → Nat → Cfg} {rc : RC} {rs : List RR} (hf : M.P.funcs[f]? = some fn)
    (hb : fn.body = some (fn.body.getD .skip) := by kernel_rfl) (z : ∀ n m, zAu (E n m) (fn.body.getD .skip) = some rc := by intro n m; kernel_rfl) (zr : ∀ n m, resRs (E n m) fn.results.toList = some rs := by intro n m; kernel_rfl)
    (nm : (fn.name == "runtime.NumGoroutine") = false := by kernel_rfl) (bs : ∀ w g, M.base w g := by exact fun _ _ => trivial)
    (c : ∀ n m, (E n m).M = M ∧ (E n m).n0 = n ∧ (E n m).m0 = m ∧ (E n m).dfs = [] ∧ fn.ntmps = (E n m).nt ∧ (E n m).pers.take na = List.range na ∧ na ≤ (E n m).nt := by intro n m; exact ⟨rfl, rfl, rfl, rfl, by kernel_rfl, rfl, of_decide_eq_true rfl⟩) :
    FnOk M f na fn E rc rs := ⟨c, hf, hb, z, zr, nm, bs⟩
section
variable {M : Mod} {f : FuncId} {na : Nat} {fn : Func} {E : Nat → Nat → Cfg} {rc : RC} {rs : List RR}
theorem FnOk.oe (k : FnOk M f na fn E rc rs) {args : List D} {hp : Hp} {R : D → Hp → Prop} (n m : Nat) (hl : args.length = na) (hn : n = hp.H.length) (hm : m = hp.tk.length)
    (h : SWp (E n m) rc (fun e s => (match e with | .exit _ => False | _ => True) ∧ ∃ s1, Weak (E n m) s s1 ∧ rrsWp rs s1 fun ds => R (zBd ds) s1.hp) (St.init (E n m) args hp)) : Eff M f args hp R := by
  obtain ⟨c1, c2, c3, c4, c5, c6, c7⟩ := k.c n m
  have hf := k.hf
  have hb := k.bs
  rw [← c1] at hf hb ⊢
  exact eff_of_body hf k.hb c5 (k.z n m) (k.zr n m) k.nm (by rw [hl]; exact c6) (by rw [hl]; exact c7) (by rw [c2]; exact hn) (by rw [c3]; exact hm) h c4 hb
theorem FnOk.ow (k : FnOk M f na fn E rc rs) {C : Cfg} (hC : E 0 0 = C) {args : List D} {d : D} (hl : args.length = na)
    (h : SWp C rc (fun e s => (match e with | .exit _ => False | _ => True) ∧ ∃ s1, Weak C s s1 ∧ rrsWp rs s1 fun ds => D.closed (zBd ds) = true ∧ (zBd ds).er = d) (St.init C args ⟨[], []⟩)) : Pur M f args d := by
  subst hC
  obtain ⟨c1, c2, c3, c4, c5, c6, c7⟩ := k.c 0 0
  have hf := k.hf
  have hb := k.bs
  rw [← c1] at hf hb ⊢
  exact pur_of_bodyW hf k.hb c5 (k.z 0 0) (k.zr 0 0) k.nm (by rw [hl]; exact c6) (by rw [hl]; exact c7) c2 c3 h c4 hb
theorem FnOk.ok (k : FnOk M f na fn E rc rs) {C : Cfg} (hC : E 0 0 = C) {args : List D} {d : D} (hl : args.length = na)
    (h : SWp C rc (fun e s => (match e with | .exit _ => False | _ => True) ∧ rrsWp rs s fun ds => D.closed (zBd ds) = true ∧ (zBd ds).er = d) (St.init C args ⟨[], []⟩)) : Pur M f args d :=
  k.ow hC hl (zC5 h fun _ s hq => ⟨s, zAh, hq.1, s, zAh, hq.2⟩)
end
end GoV
end
section
namespace Go.Proofs
open Go.Shelf
def Tryz.lays125_ren : Go.Shelf.Ren := ⟨fun | 125 => 37 | 128 => 71 | 129 => 72 | n => n, fun | 46 => 98 | 3 => 3 | 51 => 131 | 53 => 133 | 4 => 4 | 5 => 5 | 9 => 9 | n => n, fun | n => n⟩
theorem Tryz.lays125 : Go.Proofs.Lays.n125 Tryz.prog Tryz.lays125_ren := {
  mixed := by kernel_rfl
  f125 := Tryz.func37.trans (congrArg some (by kernel_rfl))
  f128 := Tryz.func71.trans (congrArg some (by kernel_rfl))
  f129 := Tryz.func72.trans (congrArg some (by kernel_rfl))
  t3 := Tryz.underlying3
  a3 := Tryz.isAgg3
  z3 := Tryz.sizeOf3
  v3 := Tryz.zeroValue3
  t4 := Tryz.underlying4
  a4 := Tryz.isAgg4
  z4 := Tryz.sizeOf4
  v4 := Tryz.zeroValue4
  t5 := Tryz.underlying5
  a5 := Tryz.isAgg5
  z5 := Tryz.sizeOf5
  v5 := Tryz.zeroValue5
  t9 := Tryz.underlying9
  a9 := Tryz.isAgg9
  z9 := Tryz.sizeOf9
  v9 := Tryz.zeroValue9
  t46 := Tryz.underlying98
  a46 := Tryz.isAgg98
  z46 := Tryz.sizeOf98
  v46 := Tryz.zeroValue98
  t51 := Tryz.underlying131
  a51 := Tryz.isAgg131
  z51 := Tryz.sizeOf131
  v51 := Tryz.zeroValue131
  t53 := Tryz.underlying133
  a53 := Tryz.isAgg133
  z53 := Tryz.sizeOf133
  v53 := Tryz.zeroValue133 }
theorem Tryz.bits_Len (x : Int) (w : World) (h0 : 0 ≤ x) (h1 : x ≤ 18446744073709551615) :
    Calls Tryz.prog 37 #[.int .u64 x] w fun e w' => e = .returned (.int .i64 (Lib.bitLen x.toNat)) ∧ w' = w := Any.bits_Len Tryz.lays125 x w h0 h1
def Tryz.lays137_ren : Go.Shelf.Ren := ⟨fun | 137 => 86 | 217 => 105 | 266 => 107 | n => n, fun | 9 => 9 | 5 => 5 | 3 => 3 | n => n, fun | n => n⟩
theorem Tryz.lays137 : Go.Proofs.Lays.n137 Tryz.prog Tryz.lays137_ren := {
  mixed := by kernel_rfl
  f137 := Tryz.func86.trans (congrArg some (by kernel_rfl))
  f217 := Tryz.func105.trans (congrArg some (by kernel_rfl))
  f266 := Tryz.func107.trans (congrArg some (by kernel_rfl))
  t3 := Tryz.underlying3
  a3 := Tryz.isAgg3
  z3 := Tryz.sizeOf3
  v3 := Tryz.zeroValue3
  t5 := Tryz.underlying5
  a5 := Tryz.isAgg5
  z5 := Tryz.sizeOf5
  v5 := Tryz.zeroValue5
  t9 := Tryz.underlying9
  a9 := Tryz.isAgg9
  z9 := Tryz.sizeOf9
  v9 := Tryz.zeroValue9 }
open Go.RowKit in
theorem Tryz.strings_IndexByte (s : ByteArray) (c : Int) (w : World) :
    Calls Tryz.prog 86 #[.string s, .int .u8 c] w fun e w' => e = .returned (.int .i64 (Lib.indexByte s.data.toList c.toNat.toUInt8)) ∧ w' = w := Any.strings_IndexByte Tryz.lays137 s c w
end Go.Proofs
end
section
set_option maxRecDepth 100000
namespace Go.Proofs.YtcchbohfcmfmlaaGreat
open Go GoV
noncomputable def M : Mod := { P := Tryz.prog, amb := fun _ _ => True, up := fun _ _ _ _ _ _ _ => trivial }
@[irreducible] def zl256 : List D := List.replicate 256 (.int .u8 0)
noncomputable def E78 (n m : Nat) : Cfg := ⟨M, [0, 2, 3, 4], 8, n, m, []⟩
noncomputable def C78 : Cfg := E78 0 0
noncomputable abbrev r78_0 : List RO := [
  ⟨.v 1, .mv, [.con (.int .i64 0)], none⟩]
noncomputable abbrev r78_1 : List RO := [
  ⟨.v 2, .mv, [.v 0], none⟩]
noncomputable abbrev r78_2 : List RO := [
  ⟨.l 5, .bin .eql, [.v 2, .con (.int .i64 0)], none⟩,
  ⟨.v 3, .mv, [.l 5], none⟩]
noncomputable abbrev r78_3 : List RO := [
  ⟨.l 6, .bin .eql, [.v 2, .con (.int .i64 2)], none⟩,
  ⟨.v 3, .mv, [.l 6], none⟩]
noncomputable abbrev r78_4 : List RO := [
  ⟨.l 7, .mv, [.v 0], none⟩,
  ⟨.v 1, .mv, [.l 7], none⟩]
noncomputable abbrev r78_5 : List RO := [
  ⟨.v 1, .mv, [.con (.int .i64 1)], none⟩]
theorem P78 : C78.M = M := by unfold C78 E78; rfl
theorem i78 {a0 : D} : St.init C78 [a0] ⟨[], []⟩ = ⟨[a0, .u0, .u0, .u0], [], ⟨[], []⟩⟩ := by unfold C78 E78; rfl
noncomputable def c78 : RC := (.seq (.reg r78_0) (.seq (.seq (.reg r78_1) (.block 0 (.seq (.seq (.reg r78_2) (.cond (.v 3) .skip (.reg r78_3))) (.cond (.v 3) (.seq (.reg r78_4) .ret) .skip)))) (.seq (.reg r78_5) .ret)))
noncomputable def q78 : List RR := [(.slot (.v 1))]
theorem k78 : FnOk M 78 1 Tryz.f78 E78 c78 q78 := fnOk Tryz.func78
noncomputable def E45 (n m : Nat) : Cfg := ⟨M, [0, 1, 4], 10, n, m, []⟩
noncomputable def C45 : Cfg := E45 0 0
noncomputable abbrev r45_0 : List RO := [
  ⟨.v 2, .mv, [.con (.int .i64 0)], none⟩]
noncomputable abbrev r45_1 : List RO := [
  ⟨.l 5, .mv, [.v 0], none⟩,
  ⟨.l 6, .call, [(.con (.fn (.func 78) [] [])), .l 5], none⟩,
  ⟨.l 7, .mv, [.v 1], none⟩,
  ⟨.l 8, .call, [(.con (.fn (.func 78) [] [])), .l 7], none⟩,
  ⟨.l 9, .minI, [.l 6, .l 8], none⟩,
  ⟨.v 2, .mv, [.l 9], none⟩]
theorem P45 : C45.M = M := by unfold C45 E45; rfl
theorem i45 {a0 a1 : D} : St.init C45 [a0, a1] ⟨[], []⟩ = ⟨[a0, a1, .u0], [], ⟨[], []⟩⟩ := by unfold C45 E45; rfl
noncomputable def c45 : RC := (.seq (.reg r45_0) (.seq (.reg r45_1) .ret))
noncomputable def q45 : List RR := [(.slot (.v 2))]
theorem k45 : FnOk M 45 2 Tryz.f45 E45 c45 q45 := fnOk Tryz.func45
noncomputable def E46 (n m : Nat) : Cfg := ⟨M, [0, 1, 4], 10, n, m, []⟩
noncomputable def C46 : Cfg := E46 0 0
noncomputable abbrev r46_0 : List RO := [
  ⟨.v 2, .mv, [.con (.int .i64 0)], none⟩]
noncomputable abbrev r46_1 : List RO := [
  ⟨.l 5, .mv, [.v 0], none⟩,
  ⟨.l 6, .call, [(.con (.fn (.func 78) [] [])), .l 5], none⟩,
  ⟨.l 7, .mv, [.v 1], none⟩,
  ⟨.l 8, .call, [(.con (.fn (.func 78) [] [])), .l 7], none⟩,
  ⟨.l 9, .maxI, [.l 6, .l 8], none⟩,
  ⟨.v 2, .mv, [.l 9], none⟩]
theorem P46 : C46.M = M := by unfold C46 E46; rfl
theorem i46 {a0 a1 : D} : St.init C46 [a0, a1] ⟨[], []⟩ = ⟨[a0, a1, .u0], [], ⟨[], []⟩⟩ := by unfold C46 E46; rfl
noncomputable def c46 : RC := (.seq (.reg r46_0) (.seq (.reg r46_1) .ret))
noncomputable def q46 : List RR := [(.slot (.v 2))]
theorem k46 : FnOk M 46 2 Tryz.f46 E46 c46 q46 := fnOk Tryz.func46
noncomputable def E44 (n m : Nat) : Cfg := ⟨M, [0, 2], 6, n, m, []⟩
noncomputable def C44 : Cfg := E44 0 0
noncomputable abbrev r44_0 : List RO := [
  ⟨.v 1, .mv, [.con (.int .i64 0)], none⟩]
noncomputable abbrev r44_1 : List RO := [
  ⟨.l 3, .mv, [.v 0], none⟩,
  ⟨.l 4, .call, [(.con (.fn (.func 78) [] [])), .l 3], none⟩,
  ⟨.l 5, .bin .sub, [.con (.int .i64 2), .l 4], none⟩,
  ⟨.v 1, .mv, [.l 5], none⟩]
theorem P44 : C44.M = M := by unfold C44 E44; rfl
theorem i44 {a0 : D} : St.init C44 [a0] ⟨[], []⟩ = ⟨[a0, .u0], [], ⟨[], []⟩⟩ := by unfold C44 E44; rfl
noncomputable def c44 : RC := (.seq (.reg r44_0) (.seq (.reg r44_1) .ret))
noncomputable def q44 : List RR := [(.slot (.v 1))]
theorem k44 : FnOk M 44 1 Tryz.f44 E44 c44 q44 := fnOk Tryz.func44
noncomputable def E48 (n m : Nat) : Cfg := ⟨M, [0, 1, 2, 4, 5, 15], 20, n, m, []⟩
noncomputable def C48 : Cfg := E48 0 0
noncomputable abbrev r48_0 : List RO := [
  ⟨.v 2, .box, [.v 0], none⟩,
  ⟨.v 3, .mv, [.con (.int .i64 0)], none⟩]
noncomputable abbrev r48_1 : List RO := [
  ⟨.l 6, .ld true 2, [.v 2], none⟩,
  ⟨.l 7, .call, [(.con (.fn (.func 80) [] [])), .l 6], none⟩,
  ⟨.l 8, .un .not, [.l 7], none⟩,
  ⟨.l 9, .mv, [.l 8], none⟩,
  ⟨.l 10, .fld 1, [.v 2], (some (.l 9, false))⟩,
  ⟨.l 11, .ld false 1, [.l 10], (some (.l 9, false))⟩,
  ⟨.l 12, .mv, [.v 1], (some (.l 9, false))⟩,
  ⟨.l 13, .bin .leq, [.l 11, .l 12], (some (.l 9, false))⟩,
  ⟨.l 14, .pick, [.l 9, .con (.bool true), .l 13], none⟩,
  ⟨.v 4, .mv, [.l 14], none⟩]
noncomputable abbrev r48_2 : List RO := [
  ⟨.v 3, .mv, [.con (.int .i64 0)], none⟩]
noncomputable abbrev r48_3 : List RO := [
  ⟨.l 16, .fld 0, [.v 2], none⟩,
  ⟨.l 17, .ld false 1, [.l 16], none⟩,
  ⟨.l 18, .mv, [.v 1], none⟩,
  ⟨.l 19, .bin .gtr, [.l 17, .l 18], none⟩,
  ⟨.v 5, .mv, [.l 19], none⟩]
noncomputable abbrev r48_4 : List RO := [
  ⟨.v 3, .mv, [.con (.int .i64 2)], none⟩]
noncomputable abbrev r48_5 : List RO := [
  ⟨.v 3, .mv, [.con (.int .i64 1)], none⟩]
theorem P48 : C48.M = M := by unfold C48 E48; rfl
theorem i48 {a0 a1 : D} : St.init C48 [a0, a1] ⟨[], []⟩ = ⟨[a0, a1, .u0, .u0, .u0, .u0], [], ⟨[], []⟩⟩ := by unfold C48 E48; rfl
noncomputable def c48 : RC := (.seq (.reg r48_0) (.seq (.block 0 (.seq (.reg r48_1) (.cond (.v 4) (.seq (.reg r48_2) .ret) (.seq (.reg r48_3) (.cond (.v 5) (.seq (.reg r48_4) .ret) .skip))))) (.seq (.reg r48_5) .ret)))
noncomputable def q48 : List RR := [(.slot (.v 3))]
theorem k48 : FnOk M 48 2 Tryz.f48 E48 c48 q48 := fnOk Tryz.func48
noncomputable def E80 (n m : Nat) : Cfg := ⟨M, [0, 1, 2], 18, n, m, []⟩
noncomputable def C80 : Cfg := E80 0 0
noncomputable abbrev r80_0 : List RO := [
  ⟨.v 1, .box, [.v 0], none⟩,
  ⟨.v 2, .mv, [.con (.bool false)], none⟩]
noncomputable abbrev r80_1 : List RO := [
  ⟨.l 3, .fld 0, [.v 1], none⟩,
  ⟨.l 4, .ld false 1, [.l 3], none⟩,
  ⟨.l 5, .bin .leq, [(.con (.int .i64 (-1000000000000))), .l 4], none⟩,
  ⟨.l 6, .mv, [.l 5], none⟩,
  ⟨.l 7, .fld 0, [.v 1], (some (.l 6, true))⟩,
  ⟨.l 8, .ld false 1, [.l 7], (some (.l 6, true))⟩,
  ⟨.l 9, .fld 1, [.v 1], (some (.l 6, true))⟩,
  ⟨.l 10, .ld false 1, [.l 9], (some (.l 6, true))⟩,
  ⟨.l 11, .bin .leq, [.l 8, .l 10], (some (.l 6, true))⟩,
  ⟨.l 12, .pick, [.l 6, .l 11, .con (.bool false)], none⟩,
  ⟨.l 13, .mv, [.l 12], none⟩,
  ⟨.l 14, .fld 1, [.v 1], (some (.l 13, true))⟩,
  ⟨.l 15, .ld false 1, [.l 14], (some (.l 13, true))⟩,
  ⟨.l 16, .bin .leq, [.l 15, .con (.int .i64 1000000000000)], (some (.l 13, true))⟩,
  ⟨.l 17, .pick, [.l 13, .l 16, .con (.bool false)], none⟩,
  ⟨.v 2, .mv, [.l 17], none⟩]
theorem P80 : C80.M = M := by unfold C80 E80; rfl
theorem i80 {a0 : D} : St.init C80 [a0] ⟨[], []⟩ = ⟨[a0, .u0, .u0], [], ⟨[], []⟩⟩ := by unfold C80 E80; rfl
noncomputable def c80 : RC := (.seq (.reg r80_0) (.seq (.reg r80_1) .ret))
noncomputable def q80 : List RR := [(.slot (.v 2))]
theorem k80 : FnOk M 80 1 Tryz.f80 E80 c80 q80 := fnOk Tryz.func80
noncomputable def E49 (n m : Nat) : Cfg := ⟨M, [0, 2, 3], 4, n, m, []⟩
noncomputable def C49 : Cfg := E49 0 0
noncomputable abbrev r49_0 : List RO := [
  ⟨.v 1, .mv, [.con (.int .i64 0)], none⟩]
noncomputable abbrev r49_1 : List RO := [
  ⟨.v 2, .mv, [.v 0], none⟩]
noncomputable abbrev r49_2 : List RO := [
  ⟨.v 1, .mv, [.con (.int .i64 2)], none⟩]
noncomputable abbrev r49_3 : List RO := [
  ⟨.v 1, .mv, [.con (.int .i64 0)], none⟩]
theorem P49 : C49.M = M := by unfold C49 E49; rfl
theorem i49 {a0 : D} : St.init C49 [a0] ⟨[], []⟩ = ⟨[a0, .u0, .u0], [], ⟨[], []⟩⟩ := by unfold C49 E49; rfl
noncomputable def c49 : RC := (.seq (.reg r49_0) (.seq (.seq (.reg r49_1) (.cond (.v 2) (.seq (.reg r49_2) .ret) .skip)) (.seq (.reg r49_3) .ret)))
noncomputable def q49 : List RR := [(.slot (.v 1))]
theorem k49 : FnOk M 49 1 Tryz.f49 E49 c49 q49 := fnOk Tryz.func49
noncomputable def E11 (n m : Nat) : Cfg := ⟨M, [0, 1, 4], 8, n, m, []⟩
noncomputable def C11 : Cfg := E11 0 0
noncomputable abbrev r11_0 : List RO := [
  ⟨.v 2, (.newb [(.int .i64 0), (.str []), (.str []), (.int .i64 0), (.int .i64 0), (.lit (.slice none 0 0))]), [], none⟩]
noncomputable abbrev r11_1 : List RO := [
  ⟨.l 5, .mv, [.v 0], none⟩,
  ⟨.l 6, .mv, [.v 1], none⟩,
  ⟨.l 7, (.bld [(.int .i64 0), (.str []), (.str []), (.int .i64 0), (.int .i64 0), (.lit (.slice none 0 0))] [(0, 1), (1, 1), (3, 1), (4, 1)]), [.con (.int .i64 5), (.con (.str [107, 109])), .l 5, .l 6], none⟩,
  ⟨.none, .st 6, [.v 2, .l 7], none⟩]
theorem P11 : C11.M = M := by unfold C11 E11; rfl
theorem i11 {a0 a1 : D} : St.init C11 [a0, a1] ⟨[], []⟩ = ⟨[a0, a1, .u0], [], ⟨[], []⟩⟩ := by unfold C11 E11; rfl
noncomputable def c11 : RC := (.seq (.reg r11_0) (.seq (.reg r11_1) .ret))
noncomputable def q11 : List RR := [(.cell (.v 2) true 6)]
theorem k11 : FnOk M 11 2 Tryz.f11 E11 c11 q11 := fnOk Tryz.func11
noncomputable def E76 (n m : Nat) : Cfg := ⟨M, [0, 1, 4], 12, n, m, []⟩
noncomputable def C76 : Cfg := E76 0 0
noncomputable abbrev r76_0 : List RO := [
  ⟨.v 2, .mv, [.con (.bool false)], none⟩]
noncomputable abbrev r76_1 : List RO := [
  ⟨.l 5, .mv, [.v 0], none⟩,
  ⟨.l 6, .mv, [.v 1], none⟩,
  ⟨.l 7, .bin .geq, [.l 5, .l 6], none⟩,
  ⟨.l 8, .mv, [.l 7], none⟩,
  ⟨.l 9, .mv, [.v 0], (some (.l 8, true))⟩,
  ⟨.l 10, .bin .leq, [.l 9, .con (.int .i64 9999999)], (some (.l 8, true))⟩,
  ⟨.l 11, .pick, [.l 8, .l 10, .con (.bool false)], none⟩,
  ⟨.v 2, .mv, [.l 11], none⟩]
theorem P76 : C76.M = M := by unfold C76 E76; rfl
theorem i76 {a0 a1 : D} : St.init C76 [a0, a1] ⟨[], []⟩ = ⟨[a0, a1, .u0], [], ⟨[], []⟩⟩ := by unfold C76 E76; rfl
noncomputable def c76 : RC := (.seq (.reg r76_0) (.seq (.reg r76_1) .ret))
noncomputable def q76 : List RR := [(.slot (.v 2))]
theorem k76 : FnOk M 76 2 Tryz.f76 E76 c76 q76 := fnOk Tryz.func76
noncomputable def E28 (n m : Nat) : Cfg := ⟨M, [0, 2, 3, 4, 5, 8, 9, 10, 30], 39, n, m, []⟩
noncomputable def C28 : Cfg := E28 0 0
noncomputable abbrev r28_0 : List RO := [
  ⟨.v 1, .mv, [.con (.bool false)], none⟩]
noncomputable abbrev r28_1 : List RO := [
  ⟨.l 6, .call, [(.con (.fn (.func 57) [] []))], none⟩,
  ⟨.v 2, .newb zl256, [], none⟩,
  ⟨.none, .st 256, [.v 2, .l 6], none⟩]
noncomputable abbrev r28_2 : List RO := [
  ⟨.l 7, .mv, [.v 0], none⟩,
  ⟨.v 5, .lenS, [.l 7], none⟩,
  ⟨.v 6, .mv, [.con (.int .i64 0)], none⟩]
noncomputable abbrev r28_3 : List RO := [
  ⟨.v 7, .bin .lss, [.v 6, .v 5], none⟩]
noncomputable abbrev r28_4 : List RO := [
  ⟨.l 11, .mv, [.v 6], none⟩,
  ⟨.v 3, .mv, [.l 11], none⟩]
noncomputable abbrev r28_5 : List RO := [
  ⟨.l 12, .mv, [.v 0], none⟩,
  ⟨.l 13, .mv, [.v 3], none⟩,
  ⟨.l 14, .ixvS, [.l 12, .l 13], none⟩,
  ⟨.l 15, .ixaA 256 1, [.v 2, .l 14], none⟩,
  ⟨.l 16, .ld false 1, [.l 15], none⟩,
  ⟨.v 4, .mv, [.l 16], none⟩]
noncomputable abbrev r28_6 : List RO := [
  ⟨.l 17, .mv, [.v 4], none⟩,
  ⟨.l 18, .bin .neq, [.l 17, (.con (.int .u8 3))], none⟩,
  ⟨.l 19, .mv, [.l 18], none⟩,
  ⟨.l 20, .mv, [.v 3], (some (.l 19, true))⟩,
  ⟨.l 21, .bin .eql, [.l 20, .con (.int .i64 0)], (some (.l 19, true))⟩,
  ⟨.l 22, .mv, [.l 21], (some (.l 19, true))⟩,
  ⟨.l 23, .mv, [.v 4], (some (.l 22, false))⟩,
  ⟨.l 24, .bin .neq, [.l 23, (.con (.int .u8 4))], (some (.l 22, false))⟩,
  ⟨.l 25, .mv, [.l 24], (some (.l 22, false))⟩,
  ⟨.l 26, .mv, [.v 4], (some (.l 25, true))⟩,
  ⟨.l 27, .bin .neq, [.l 26, (.con (.int .u8 5))], (some (.l 25, true))⟩,
  ⟨.l 28, .pick, [.l 25, .l 27, .con (.bool false)], (some (.l 22, false))⟩,
  ⟨.l 29, .pick, [.l 22, .con (.bool true), .l 28], (some (.l 19, true))⟩,
  ⟨.v 8, .pick, [.l 19, .l 29, .con (.bool false)], none⟩]
noncomputable abbrev r28_7 : List RO := [
  ⟨.v 1, .mv, [.con (.bool false)], none⟩]
noncomputable abbrev r28_8 : List RO := [
  ⟨.l 31, .bin .add, [.v 6, .con (.int .i64 1)], none⟩,
  ⟨.v 6, .mv, [.l 31], none⟩]
noncomputable abbrev r28_9 : List RO := [
  ⟨.l 32, .mv, [.v 0], none⟩,
  ⟨.l 33, .bin .neq, [.l 32, (.con (.str []))], none⟩,
  ⟨.l 34, .mv, [.l 33], none⟩,
  ⟨.l 35, .mv, [.v 0], (some (.l 34, true))⟩,
  ⟨.l 36, .lenS, [.l 35], (some (.l 34, true))⟩,
  ⟨.l 37, .bin .leq, [.l 36, .con (.int .i64 24)], (some (.l 34, true))⟩,
  ⟨.l 38, .pick, [.l 34, .l 37, .con (.bool false)], none⟩,
  ⟨.v 1, .mv, [.l 38], none⟩]
theorem P28 : C28.M = M := by unfold C28 E28; rfl
theorem i28 {a0 : D} : St.init C28 [a0] ⟨[], []⟩ = ⟨[a0, .u0, .u0, .u0, .u0, .u0, .u0, .u0, .u0], [], ⟨[], []⟩⟩ := by unfold C28 E28; rfl
noncomputable def c28 : RC := (.seq (.reg r28_0) (.seq (.reg r28_1) (.seq (.seq (.reg r28_2) (.block 0 (.loop (.seq (.reg r28_3) (.seq (.cond (.v 7) .skip (.exit 0)) (.seq (.block 1 (.seq (.reg r28_4) (.seq (.reg r28_5) (.seq (.reg r28_6) (.cond (.v 8) (.seq (.reg r28_7) .ret) .skip))))) (.reg r28_8))))))) (.seq (.reg r28_9) .ret))))
noncomputable def q28 : List RR := [(.slot (.v 1))]
theorem k28 : FnOk M 28 1 Tryz.f28 E28 c28 q28 := fnOk Tryz.func28
noncomputable def E57 (n m : Nat) : Cfg := ⟨M, [0, 1, 2, 3, 4, 5, 9, 24, 33, 39], 50, n, m, []⟩
noncomputable def C57 : Cfg := E57 0 0
noncomputable abbrev r57_0 : List RO := [
  ⟨.v 0, .newb zl256, [], none⟩]
noncomputable abbrev r57_1 : List RO := [
  ⟨.v 1, .newb zl256, [], none⟩]
noncomputable abbrev r57_2 : List RO := [
  ⟨.v 4, .mv, [.con (.int .i64 0)], none⟩]
noncomputable abbrev r57_3 : List RO := [
  ⟨.v 5, .bin .lss, [.v 4, .con (.int .i64 256)], none⟩]
noncomputable abbrev r57_4 : List RO := [
  ⟨.l 6, .mv, [.v 4], none⟩,
  ⟨.v 2, .mv, [.l 6], none⟩]
noncomputable abbrev r57_5 : List RO := [
  ⟨.l 7, .mv, [.v 2], none⟩,
  ⟨.l 8, .cvI .u8, [.l 7], none⟩,
  ⟨.v 3, .mv, [.l 8], none⟩]
noncomputable abbrev r57_6 : List RO := [
  ⟨.l 10, .mv, [.v 3], none⟩,
  ⟨.l 11, .bin .leq, [(.con (.int .u8 97)), .l 10], none⟩,
  ⟨.l 12, .mv, [.l 11], none⟩,
  ⟨.l 13, .mv, [.v 3], (some (.l 12, true))⟩,
  ⟨.l 14, .bin .leq, [.l 13, (.con (.int .u8 122))], (some (.l 12, true))⟩,
  ⟨.l 15, .pick, [.l 12, .l 14, .con (.bool false)], none⟩,
  ⟨.v 6, .mv, [.l 15], none⟩]
noncomputable abbrev r57_7 : List RO := [
  ⟨.l 16, .mv, [.v 3], none⟩,
  ⟨.l 17, .bin .leq, [(.con (.int .u8 65)), .l 16], none⟩,
  ⟨.l 18, .mv, [.l 17], none⟩,
  ⟨.l 19, .mv, [.v 3], (some (.l 18, true))⟩,
  ⟨.l 20, .bin .leq, [.l 19, (.con (.int .u8 90))], (some (.l 18, true))⟩,
  ⟨.l 21, .pick, [.l 18, .l 20, .con (.bool false)], none⟩,
  ⟨.v 6, .mv, [.l 21], none⟩]
noncomputable abbrev r57_8 : List RO := [
  ⟨.l 22, .mv, [.v 2], none⟩,
  ⟨.l 23, .ixaA 256 1, [.v 1, .l 22], none⟩,
  ⟨.none, .st 1, [.l 23, (.con (.int .u8 3))], none⟩]
noncomputable abbrev r57_9 : List RO := [
  ⟨.l 25, .mv, [.v 3], none⟩,
  ⟨.l 26, .bin .leq, [(.con (.int .u8 48)), .l 25], none⟩,
  ⟨.l 27, .mv, [.l 26], none⟩,
  ⟨.l 28, .mv, [.v 3], (some (.l 27, true))⟩,
  ⟨.l 29, .bin .leq, [.l 28, (.con (.int .u8 57))], (some (.l 27, true))⟩,
  ⟨.l 30, .pick, [.l 27, .l 29, .con (.bool false)], none⟩,
  ⟨.v 7, .mv, [.l 30], none⟩]
noncomputable abbrev r57_10 : List RO := [
  ⟨.l 31, .mv, [.v 2], none⟩,
  ⟨.l 32, .ixaA 256 1, [.v 1, .l 31], none⟩,
  ⟨.none, .st 1, [.l 32, (.con (.int .u8 4))], none⟩]
noncomputable abbrev r57_11 : List RO := [
  ⟨.l 34, .mv, [.v 3], none⟩,
  ⟨.l 35, .call, [(.con (.fn (.func 86) [] [])), (.con (.str [32, 9, 10])), .l 34], none⟩,
  ⟨.l 36, .bin .geq, [.l 35, .con (.int .i64 0)], none⟩,
  ⟨.v 8, .mv, [.l 36], none⟩]
noncomputable abbrev r57_12 : List RO := [
  ⟨.l 37, .mv, [.v 2], none⟩,
  ⟨.l 38, .ixaA 256 1, [.v 1, .l 37], none⟩,
  ⟨.none, .st 1, [.l 38, (.con (.int .u8 1))], none⟩]
noncomputable abbrev r57_13 : List RO := [
  ⟨.l 40, .mv, [.v 3], none⟩,
  ⟨.l 41, .call, [(.con (.fn (.func 86) [] [])), (.con (.str [59, 44, 46, 58, 40, 41, 123, 125, 91, 93, 61, 60, 62, 47, 43, 45, 42])), .l 40], none⟩,
  ⟨.l 42, .bin .geq, [.l 41, .con (.int .i64 0)], none⟩,
  ⟨.v 9, .mv, [.l 42], none⟩]
noncomputable abbrev r57_14 : List RO := [
  ⟨.l 43, .mv, [.v 2], none⟩,
  ⟨.l 44, .ixaA 256 1, [.v 1, .l 43], none⟩,
  ⟨.none, .st 1, [.l 44, (.con (.int .u8 6))], none⟩]
noncomputable abbrev r57_15 : List RO := [
  ⟨.l 45, .bin .add, [.v 4, .con (.int .i64 1)], none⟩,
  ⟨.v 4, .mv, [.l 45], none⟩]
noncomputable abbrev r57_16 : List RO := [
  ⟨.l 46, .ixaA 256 1, [.v 1, .con (.int .i64 35)], none⟩,
  ⟨.none, .st 1, [.l 46, (.con (.int .u8 2))], none⟩,
  ⟨.l 47, .ixaA 256 1, [.v 1, .con (.int .i64 95)], none⟩,
  ⟨.none, .st 1, [.l 47, (.con (.int .u8 5))], none⟩,
  ⟨.l 48, .ixaA 256 1, [.v 1, .con (.int .i64 34)], none⟩,
  ⟨.none, .st 1, [.l 48, (.con (.int .u8 7))], none⟩]
noncomputable abbrev r57_17 : List RO := [
  ⟨.l 49, .ld true 256, [.v 1], none⟩,
  ⟨.none, .st 256, [.v 0, .l 49], none⟩]
theorem P57 : C57.M = M := by unfold C57 E57; rfl
theorem i57 : St.init C57 [] ⟨[], []⟩ = ⟨[.u0, .u0, .u0, .u0, .u0, .u0, .u0, .u0, .u0, .u0], [], ⟨[], []⟩⟩ := by unfold C57 E57; rfl
noncomputable def c57 : RC := (.seq (.reg r57_0) (.seq (.reg r57_1) (.seq (.seq (.reg r57_2) (.block 0 (.loop (.seq (.reg r57_3) (.seq (.cond (.v 5) .skip (.exit 0)) (.seq (.block 1 (.seq (.reg r57_4) (.seq (.reg r57_5) (.block 2 (.seq (.seq (.reg r57_6) (.cond (.v 6) .skip (.reg r57_7))) (.cond (.v 6) (.reg r57_8) (.seq (.reg r57_9) (.cond (.v 7) (.reg r57_10) (.seq (.reg r57_11) (.cond (.v 8) (.reg r57_12) (.seq (.reg r57_13) (.cond (.v 9) (.reg r57_14) .skip)))))))))))) (.reg r57_15))))))) (.seq (.reg r57_16) (.seq (.reg r57_17) .ret)))))
noncomputable def q57 : List RR := [(.cell (.v 0) true 256)]
theorem k57 : FnOk M 57 0 Tryz.f57 E57 c57 q57 := fnOk Tryz.func57
noncomputable def E77 (n m : Nat) : Cfg := ⟨M, [0, 2], 6, n, m, []⟩
noncomputable def C77 : Cfg := E77 0 0
noncomputable abbrev r77_0 : List RO := [
  ⟨.v 1, .mv, [.con (.bool false)], none⟩]
noncomputable abbrev r77_1 : List RO := [
  ⟨.l 3, .bsl 1, [(.con (.str [116, 114, 117, 101])), (.con (.str [110, 111, 116])), (.con (.str [97, 110, 100])), (.con (.str [111, 114])), (.con (.str [108, 105, 109, 105, 116])), (.con (.str [111, 118, 101, 114])), (.con (.str [104, 97, 115])), (.con (.str [115, 108, 111, 116])), (.con (.str [97, 108, 108])), (.con (.str [97, 110, 121])), (.con (.str [97, 116]))], none⟩,
  ⟨.l 4, .mv, [.v 0], none⟩,
  ⟨.l 5, .call, [(.con (.fn (.func 21) [] [])), .l 3, .l 4], none⟩,
  ⟨.v 1, .mv, [.l 5], none⟩]
theorem P77 : C77.M = M := by unfold C77 E77; rfl
theorem i77 {a0 : D} : St.init C77 [a0] ⟨[], []⟩ = ⟨[a0, .u0], [], ⟨[], []⟩⟩ := by unfold C77 E77; rfl
noncomputable def c77 : RC := (.seq (.reg r77_0) (.seq (.reg r77_1) .ret))
noncomputable def q77 : List RR := [(.slot (.v 1))]
theorem k77 : FnOk M 77 1 Tryz.f77 E77 c77 q77 := fnOk Tryz.func77
noncomputable def E21 (n m : Nat) : Cfg := ⟨M, [0, 1, 4], 9, n, m, []⟩
noncomputable def C21 : Cfg := E21 0 0
noncomputable abbrev r21_0 : List RO := [
  ⟨.v 2, .mv, [.con (.bool false)], none⟩]
noncomputable abbrev r21_1 : List RO := [
  ⟨.l 5, .mv, [.v 0], none⟩,
  ⟨.l 6, .mv, [.v 1], none⟩,
  ⟨.l 7, .call, [(.con (.fn (.func 35) [] [])), .l 5, .l 6], none⟩,
  ⟨.l 8, .bin .geq, [.l 7, .con (.int .i64 0)], none⟩,
  ⟨.v 2, .mv, [.l 8], none⟩]
theorem P21 : C21.M = M := by unfold C21 E21; rfl
theorem i21 {a0 a1 : D} : St.init C21 [a0, a1] ⟨[], []⟩ = ⟨[a0, a1, .u0], [], ⟨[], []⟩⟩ := by unfold C21 E21; rfl
noncomputable def c21 : RC := (.seq (.reg r21_0) (.seq (.reg r21_1) .ret))
noncomputable def q21 : List RR := [(.slot (.v 2))]
theorem k21 : FnOk M 21 2 Tryz.f21 E21 c21 q21 := fnOk Tryz.func21
noncomputable def E35 (n m : Nat) : Cfg := ⟨M, [0, 1, 4, 5, 7, 8, 9, 16], 19, n, m, []⟩
noncomputable def C35 : Cfg := E35 0 0
noncomputable abbrev r35_0 : List RO := [
  ⟨.v 2, .mv, [.con (.int .i64 0)], none⟩]
noncomputable abbrev r35_1 : List RO := [
  ⟨.l 6, .mv, [.v 0], none⟩,
  ⟨.v 4, .lenL, [.l 6], none⟩,
  ⟨.v 5, .mv, [.con (.int .i64 0)], none⟩]
noncomputable abbrev r35_2 : List RO := [
  ⟨.v 6, .bin .lss, [.v 5, .v 4], none⟩]
noncomputable abbrev r35_3 : List RO := [
  ⟨.l 10, .mv, [.v 5], none⟩,
  ⟨.v 3, .mv, [.l 10], none⟩]
noncomputable abbrev r35_4 : List RO := [
  ⟨.l 11, .mv, [.v 1], none⟩,
  ⟨.l 12, .mv, [.v 0], none⟩,
  ⟨.l 13, .mv, [.v 3], none⟩,
  ⟨.l 14, .ixaS 1, [.l 12, .l 13], none⟩,
  ⟨.l 15, .ld false 1, [.l 14], none⟩,
  ⟨.v 7, .bin .eql, [.l 11, .l 15], none⟩]
noncomputable abbrev r35_5 : List RO := [
  ⟨.l 17, .mv, [.v 3], none⟩,
  ⟨.v 2, .mv, [.l 17], none⟩]
noncomputable abbrev r35_6 : List RO := [
  ⟨.l 18, .bin .add, [.v 5, .con (.int .i64 1)], none⟩,
  ⟨.v 5, .mv, [.l 18], none⟩]
noncomputable abbrev r35_7 : List RO := [
  ⟨.v 2, .mv, [(.con (.int .i64 (-1)))], none⟩]
theorem P35 : C35.M = M := by unfold C35 E35; rfl
theorem i35 {a0 a1 : D} : St.init C35 [a0, a1] ⟨[], []⟩ = ⟨[a0, a1, .u0, .u0, .u0, .u0, .u0, .u0], [], ⟨[], []⟩⟩ := by unfold C35 E35; rfl
noncomputable def c35 : RC := (.seq (.reg r35_0) (.seq (.seq (.reg r35_1) (.block 0 (.loop (.seq (.reg r35_2) (.seq (.cond (.v 6) .skip (.exit 0)) (.seq (.block 1 (.seq (.reg r35_3) (.seq (.reg r35_4) (.cond (.v 7) (.seq (.reg r35_5) .ret) .skip)))) (.reg r35_6))))))) (.seq (.reg r35_7) .ret)))
noncomputable def q35 : List RR := [(.slot (.v 2))]
theorem k35 : FnOk M 35 2 Tryz.f35 E35 c35 q35 := fnOk Tryz.func35
noncomputable def E40 (n m : Nat) : Cfg := ⟨M, [0, 1, 2, 3, 4, 5, 6, 7, 16, 17, 19, 25, 32, 50, 59, 79, 81, 89, 96, 105], 147, n, m, []⟩
noncomputable def C40 : Cfg := E40 0 0
noncomputable abbrev r40_0 : List RO := [
  ⟨.v 1, .box, [.v 0], none⟩,
  ⟨.v 2, .mv, [.con (.bool false)], none⟩]
noncomputable abbrev r40_1 : List RO := [
  ⟨.l 8, .fld 0, [.v 1], none⟩,
  ⟨.l 9, .ld false 1, [.l 8], none⟩,
  ⟨.l 10, (.bld [(.int .i64 0), (.str []), (.str []), (.int .i64 0), (.int .i64 0), (.lit (.slice none 0 0))] [(0, 1)]), [.l 9], none⟩,
  ⟨.v 3, (.newb [(.int .i64 0), (.str []), (.str []), (.int .i64 0), (.int .i64 0), (.lit (.slice none 0 0))]), [], none⟩,
  ⟨.none, .st 6, [.v 3, .l 10], none⟩]
noncomputable abbrev r40_2 : List RO := [
  ⟨.l 11, .fld 5, [.v 1], none⟩,
  ⟨.l 12, .ld false 1, [.l 11], none⟩,
  ⟨.l 13, .lenL, [.l 12], none⟩,
  ⟨.l 14, .bin .eql, [.l 13, .con (.int .i64 0)], none⟩,
  ⟨.v 4, .mv, [.l 14], none⟩,
  ⟨.v 5, .mv, [.con (.bool true)], none⟩]
noncomputable abbrev r40_3 : List RO := [
  ⟨.v 6, .mv, [(.con (.fn (.func 76) [] []))], none⟩]
noncomputable abbrev r40_4 : List RO := [
  ⟨.v 7, .mv, [.con (.bool true)], none⟩]
noncomputable abbrev r40_5 : List RO := [
  ⟨.l 15, .fld 0, [.v 1], none⟩,
  ⟨.v 8, .ld false 1, [.l 15], none⟩]
noncomputable abbrev r40_6 : List RO := [
  ⟨.l 18, .bin .eql, [.v 8, .con (.int .i64 1)], none⟩,
  ⟨.v 9, .mv, [.l 18], none⟩]
noncomputable abbrev r40_7 : List RO := [
  ⟨.v 5, .mv, [.con (.bool false)], none⟩]
noncomputable abbrev r40_8 : List RO := [
  ⟨.l 20, .bin .eql, [.v 8, .con (.int .i64 2)], none⟩,
  ⟨.v 10, .mv, [.l 20], none⟩]
noncomputable abbrev r40_9 : List (RO × Bool) := [
  (⟨.l 21, .fld 5, [.v 1], none⟩, true),
  (⟨.l 22, .ld false 1, [.l 21], none⟩, true),
  (⟨.l 23, .lenL, [.l 22], none⟩, true),
  (⟨.l 24, .bin .eql, [.l 23, .con (.int .i64 1)], none⟩, true),
  (⟨.v 5, .mv, [.con (.bool false)], none⟩, true)]
noncomputable abbrev r40_10 : List RO := [
  ⟨.v 4, .mv, [.l 24], none⟩]
noncomputable abbrev r40_11 : List RO := [
  ⟨.l 26, .bin .eql, [.v 8, .con (.int .i64 3)], none⟩,
  ⟨.v 11, .mv, [.l 26], none⟩]
noncomputable abbrev r40_12 : List RO := [
  ⟨.l 27, .bin .eql, [.v 8, .con (.int .i64 4)], none⟩,
  ⟨.v 11, .mv, [.l 27], none⟩]
noncomputable abbrev r40_13 : List (RO × Bool) := [
  (⟨.l 28, .fld 5, [.v 1], none⟩, true),
  (⟨.l 29, .ld false 1, [.l 28], none⟩, true),
  (⟨.l 30, .lenL, [.l 29], none⟩, true),
  (⟨.l 31, .bin .gtr, [.l 30, .con (.int .i64 1)], none⟩, true),
  (⟨.v 5, .mv, [.con (.bool false)], none⟩, true)]
noncomputable abbrev r40_14 : List RO := [
  ⟨.v 4, .mv, [.l 31], none⟩]
noncomputable abbrev r40_15 : List RO := [
  ⟨.l 33, .bin .eql, [.v 8, .con (.int .i64 5)], none⟩,
  ⟨.v 12, .mv, [.l 33], none⟩]
noncomputable abbrev r40_16 : List (RO × Bool) := [
  (⟨.l 34, .fld 3, [.v 1], none⟩, true),
  (⟨.l 35, .ld false 1, [.l 34], none⟩, true),
  (⟨.l 36, .fld 4, [.v 1], none⟩, true),
  (⟨.l 37, .ld false 1, [.l 36], none⟩, true),
  (⟨.l 38, .mv, [.v 6], none⟩, true),
  (⟨.l 39, .fld 3, [.v 1], none⟩, true),
  (⟨.l 40, .ld false 1, [.l 39], none⟩, true),
  (⟨.l 41, .call, [.l 38, .l 40, .con (.int .i64 0)], none⟩, true),
  (⟨.l 42, .mv, [.l 41], none⟩, true),
  (⟨.l 43, .mv, [.v 6], (some (.l 42, true))⟩, true),
  (⟨.l 44, .fld 4, [.v 1], (some (.l 42, true))⟩, true),
  (⟨.l 45, .ld false 1, [.l 44], (some (.l 42, true))⟩, true),
  (⟨.l 46, .call, [.l 43, .l 45, .con (.int .i64 0)], (some (.l 42, true))⟩, true),
  (⟨.l 47, .pick, [.l 42, .l 46, .con (.bool false)], none⟩, true),
  (⟨.l 48, .fld 3, [.v 3], none⟩, true),
  (⟨.none, .st 1, [.l 48, .l 35], none⟩, true),
  (⟨.l 49, .fld 4, [.v 3], none⟩, true),
  (⟨.none, .st 1, [.l 49, .l 37], none⟩, false)]
noncomputable abbrev r40_17 : List RO := [
  ⟨.v 7, .mv, [.l 47], none⟩]
noncomputable abbrev r40_18 : List RO := [
  ⟨.l 51, .bin .eql, [.v 8, .con (.int .i64 6)], none⟩,
  ⟨.v 13, .mv, [.l 51], none⟩]
noncomputable abbrev r40_19 : List (RO × Bool) := [
  (⟨.l 52, .fld 3, [.v 1], none⟩, true),
  (⟨.l 53, .ld false 1, [.l 52], none⟩, true),
  (⟨.l 54, .mv, [.v 6], none⟩, true),
  (⟨.l 55, .fld 3, [.v 1], none⟩, true),
  (⟨.l 56, .ld false 1, [.l 55], none⟩, true),
  (⟨.l 57, .call, [.l 54, .l 56, .con (.int .i64 0)], none⟩, true),
  (⟨.l 58, .fld 3, [.v 3], none⟩, true)]
noncomputable abbrev r40_20 : List RO := [
  ⟨.none, .st 1, [.l 58, .l 53], none⟩,
  ⟨.v 7, .mv, [.l 57], none⟩]
noncomputable abbrev r40_21 : List RO := [
  ⟨.l 60, .bin .eql, [.v 8, .con (.int .i64 7)], none⟩,
  ⟨.v 14, .mv, [.l 60], none⟩]
noncomputable abbrev r40_22 : List (RO × Bool) := [
  (⟨.l 61, .fld 2, [.v 1], none⟩, true),
  (⟨.l 62, .ld false 1, [.l 61], none⟩, true),
  (⟨.l 63, .fld 2, [.v 1], none⟩, true),
  (⟨.l 64, .ld false 1, [.l 63], none⟩, true),
  (⟨.l 65, .bin .neq, [.l 64, (.con (.str []))], none⟩, true),
  (⟨.l 66, .mv, [.l 65], none⟩, true),
  (⟨.l 67, .fld 2, [.v 1], (some (.l 66, true))⟩, true),
  (⟨.l 68, .ld false 1, [.l 67], (some (.l 66, true))⟩, true),
  (⟨.l 69, .lenS, [.l 68], (some (.l 66, true))⟩, true),
  (⟨.l 70, .bin .leq, [.l 69, .con (.int .i64 200)], (some (.l 66, true))⟩, true),
  (⟨.l 71, .pick, [.l 66, .l 70, .con (.bool false)], none⟩, true),
  (⟨.l 72, .mv, [.l 71], none⟩, true),
  (⟨.l 73, .fld 1, [.v 1], (some (.l 72, true))⟩, true),
  (⟨.l 74, .ld false 1, [.l 73], (some (.l 72, true))⟩, true),
  (⟨.l 75, .call, [(.con (.fn (.func 77) [] [])), .l 74], (some (.l 72, true))⟩, true),
  (⟨.l 76, .un .not, [.l 75], (some (.l 72, true))⟩, true),
  (⟨.l 77, .pick, [.l 72, .l 76, .con (.bool false)], none⟩, true),
  (⟨.l 78, .fld 2, [.v 3], none⟩, true),
  (⟨.none, .st 1, [.l 78, .l 62], none⟩, false)]
noncomputable abbrev r40_23 : List RO := [
  ⟨.v 7, .mv, [.l 77], none⟩]
noncomputable abbrev r40_24 : List RO := [
  ⟨.l 80, .bin .eql, [.v 8, .con (.int .i64 8)], none⟩,
  ⟨.v 15, .mv, [.l 80], none⟩]
noncomputable abbrev r40_25 : List RO := [
  ⟨.l 82, .bin .eql, [.v 8, .con (.int .i64 9)], none⟩,
  ⟨.v 16, .mv, [.l 82], none⟩]
noncomputable abbrev r40_26 : List (RO × Bool) := [
  (⟨.l 83, .fld 2, [.v 1], none⟩, true),
  (⟨.l 84, .ld false 1, [.l 83], none⟩, true),
  (⟨.l 85, .fld 2, [.v 1], none⟩, true),
  (⟨.l 86, .ld false 1, [.l 85], none⟩, true),
  (⟨.l 87, .call, [(.con (.fn (.func 28) [] [])), .l 86], none⟩, true),
  (⟨.l 88, .fld 2, [.v 3], none⟩, true)]
noncomputable abbrev r40_27 : List RO := [
  ⟨.none, .st 1, [.l 88, .l 84], none⟩,
  ⟨.v 7, .mv, [.l 87], none⟩]
noncomputable abbrev r40_28 : List RO := [
  ⟨.l 90, .bin .eql, [.v 8, .con (.int .i64 10)], none⟩,
  ⟨.v 17, .mv, [.l 90], none⟩]
noncomputable abbrev r40_29 : List RO := [
  ⟨.l 91, .bin .eql, [.v 8, .con (.int .i64 11)], none⟩,
  ⟨.v 17, .mv, [.l 91], none⟩]
noncomputable abbrev r40_30 : List RO := [
  ⟨.l 92, .fld 5, [.v 1], none⟩,
  ⟨.l 93, .ld false 1, [.l 92], none⟩,
  ⟨.l 94, .lenL, [.l 93], none⟩,
  ⟨.l 95, .bin .eql, [.l 94, .con (.int .i64 1)], none⟩,
  ⟨.v 4, .mv, [.l 95], none⟩]
noncomputable abbrev r40_31 : List RO := [
  ⟨.l 97, .bin .eql, [.v 8, .con (.int .i64 12)], none⟩,
  ⟨.v 18, .mv, [.l 97], none⟩]
noncomputable abbrev r40_32 : List (RO × Bool) := [
  (⟨.l 98, .fld 3, [.v 1], none⟩, true),
  (⟨.l 99, .ld false 1, [.l 98], none⟩, true),
  (⟨.l 100, .mv, [.v 6], none⟩, true),
  (⟨.l 101, .fld 3, [.v 1], none⟩, true),
  (⟨.l 102, .ld false 1, [.l 101], none⟩, true),
  (⟨.l 103, .call, [.l 100, .l 102, .con (.int .i64 1)], none⟩, true),
  (⟨.l 104, .fld 3, [.v 3], none⟩, true)]
noncomputable abbrev r40_33 : List RO := [
  ⟨.none, .st 1, [.l 104, .l 99], none⟩,
  ⟨.v 7, .mv, [.l 103], none⟩]
noncomputable abbrev r40_34 : List RO := [
  ⟨.v 2, .mv, [.con (.bool false)], none⟩]
noncomputable abbrev r40_35 : List RO := [
  ⟨.v 19, .mv, [.v 5], none⟩]
noncomputable abbrev r40_36 : List (RO × Bool) := [
  (⟨.l 106, .fld 1, [.v 1], none⟩, true),
  (⟨.l 107, .ld false 1, [.l 106], none⟩, true),
  (⟨.l 108, .mv, [.v 7], none⟩, true),
  (⟨.l 109, .mv, [.l 108], none⟩, true),
  (⟨.l 110, .fld 1, [.v 1], (some (.l 109, true))⟩, true),
  (⟨.l 111, .ld false 1, [.l 110], (some (.l 109, true))⟩, true),
  (⟨.l 112, .call, [(.con (.fn (.func 28) [] [])), .l 111], (some (.l 109, true))⟩, true),
  (⟨.l 113, .pick, [.l 109, .l 112, .con (.bool false)], none⟩, true),
  (⟨.l 114, .fld 1, [.v 3], none⟩, true),
  (⟨.none, .st 1, [.l 114, .l 107], none⟩, false)]
noncomputable abbrev r40_37 : List RO := [
  ⟨.v 7, .mv, [.l 113], none⟩]
noncomputable abbrev r40_38 : List RO := [
  ⟨.l 115, .mv, [.v 7], none⟩,
  ⟨.l 116, .mv, [.l 115], none⟩,
  ⟨.l 117, .mv, [.v 4], (some (.l 116, true))⟩,
  ⟨.l 118, .pick, [.l 116, .l 117, .con (.bool false)], none⟩,
  ⟨.l 119, .mv, [.l 118], none⟩,
  ⟨.l 120, .fld 1, [.v 3], (some (.l 119, true))⟩,
  ⟨.l 121, .ld false 1, [.l 120], (some (.l 119, true))⟩,
  ⟨.l 122, .fld 1, [.v 1], (some (.l 119, true))⟩,
  ⟨.l 123, .ld false 1, [.l 122], (some (.l 119, true))⟩,
  ⟨.l 124, .bin .eql, [.l 121, .l 123], (some (.l 119, true))⟩,
  ⟨.l 125, .pick, [.l 119, .l 124, .con (.bool false)], none⟩,
  ⟨.l 126, .mv, [.l 125], none⟩,
  ⟨.l 127, .fld 2, [.v 3], (some (.l 126, true))⟩,
  ⟨.l 128, .ld false 1, [.l 127], (some (.l 126, true))⟩,
  ⟨.l 129, .fld 2, [.v 1], (some (.l 126, true))⟩,
  ⟨.l 130, .ld false 1, [.l 129], (some (.l 126, true))⟩,
  ⟨.l 131, .bin .eql, [.l 128, .l 130], (some (.l 126, true))⟩,
  ⟨.l 132, .pick, [.l 126, .l 131, .con (.bool false)], none⟩,
  ⟨.l 133, .mv, [.l 132], none⟩,
  ⟨.l 134, .fld 3, [.v 3], (some (.l 133, true))⟩,
  ⟨.l 135, .ld false 1, [.l 134], (some (.l 133, true))⟩,
  ⟨.l 136, .fld 3, [.v 1], (some (.l 133, true))⟩,
  ⟨.l 137, .ld false 1, [.l 136], (some (.l 133, true))⟩,
  ⟨.l 138, .bin .eql, [.l 135, .l 137], (some (.l 133, true))⟩,
  ⟨.l 139, .pick, [.l 133, .l 138, .con (.bool false)], none⟩,
  ⟨.l 140, .mv, [.l 139], none⟩,
  ⟨.l 141, .fld 4, [.v 3], (some (.l 140, true))⟩,
  ⟨.l 142, .ld false 1, [.l 141], (some (.l 140, true))⟩,
  ⟨.l 143, .fld 4, [.v 1], (some (.l 140, true))⟩,
  ⟨.l 144, .ld false 1, [.l 143], (some (.l 140, true))⟩,
  ⟨.l 145, .bin .eql, [.l 142, .l 144], (some (.l 140, true))⟩,
  ⟨.l 146, .pick, [.l 140, .l 145, .con (.bool false)], none⟩,
  ⟨.v 2, .mv, [.l 146], none⟩]
theorem P40 : C40.M = M := by unfold C40 E40; rfl
theorem i40 {a0 : D} : St.init C40 [a0] ⟨[], []⟩ = ⟨[a0, .u0, .u0, .u0, .u0, .u0, .u0, .u0, .u0, .u0, .u0, .u0, .u0, .u0, .u0, .u0, .u0, .u0, .u0, .u0], [], ⟨[], []⟩⟩ := by unfold C40 E40; rfl
noncomputable def c40 : RC := (.seq (.reg r40_0) (.seq (.reg r40_1) (.seq (.reg r40_2) (.seq (.reg r40_3) (.seq (.reg r40_4) (.seq (.seq (.reg r40_5) (.block 0 (.seq (.reg r40_6) (.cond (.v 9) (.reg r40_7) (.seq (.reg r40_8) (.cond (.v 10) (.regD r40_9 r40_10) (.seq (.seq (.reg r40_11) (.cond (.v 11) .skip (.reg r40_12))) (.cond (.v 11) (.regD r40_13 r40_14) (.seq (.reg r40_15) (.cond (.v 12) (.regD r40_16 r40_17) (.seq (.reg r40_18) (.cond (.v 13) (.regD r40_19 r40_20) (.seq (.reg r40_21) (.cond (.v 14) (.regD r40_22 r40_23) (.seq (.reg r40_24) (.cond (.v 15) .skip (.seq (.reg r40_25) (.cond (.v 16) (.regD r40_26 r40_27) (.seq (.seq (.reg r40_28) (.cond (.v 17) .skip (.reg r40_29))) (.cond (.v 17) (.reg r40_30) (.seq (.reg r40_31) (.cond (.v 18) (.regD r40_32 r40_33) (.seq (.reg r40_34) .ret))))))))))))))))))))))) (.seq (.seq (.reg r40_35) (.cond (.v 19) (.regD r40_36 r40_37) .skip)) (.seq (.reg r40_38) .ret))))))))
noncomputable def q40 : List RR := [(.slot (.v 2))]
theorem k40 : FnOk M 40 1 Tryz.f40 E40 c40 q40 := fnOk Tryz.func40
noncomputable def E97 (n m : Nat) : Cfg := ⟨M, [0, 1, 4, 5, 7, 8, 9, 16], 19, n, m, []⟩
noncomputable abbrev r97_0 : List RO := [
  ⟨.v 2, .mv, [.con (.int .i64 0)], none⟩]
noncomputable abbrev r97_1 : List RO := [
  ⟨.l 6, .mv, [.v 0], none⟩,
  ⟨.v 4, .lenL, [.l 6], none⟩,
  ⟨.v 5, .mv, [.con (.int .i64 0)], none⟩]
noncomputable abbrev r97_2 : List RO := [
  ⟨.v 6, .bin .lss, [.v 5, .v 4], none⟩]
noncomputable abbrev r97_3 : List RO := [
  ⟨.l 10, .mv, [.v 5], none⟩,
  ⟨.v 3, .mv, [.l 10], none⟩]
noncomputable abbrev r97_4 : List RO := [
  ⟨.l 11, .mv, [.v 1], none⟩,
  ⟨.l 12, .mv, [.v 0], none⟩,
  ⟨.l 13, .mv, [.v 3], none⟩,
  ⟨.l 14, .ixaS 6, [.l 12, .l 13], none⟩,
  ⟨.l 15, .ld true 6, [.l 14], none⟩,
  ⟨.v 7, .call, [.l 11, .l 15], none⟩]
noncomputable abbrev r97_5 : List RO := [
  ⟨.l 17, .mv, [.v 3], none⟩,
  ⟨.v 2, .mv, [.l 17], none⟩]
noncomputable abbrev r97_6 : List RO := [
  ⟨.l 18, .bin .add, [.v 5, .con (.int .i64 1)], none⟩,
  ⟨.v 5, .mv, [.l 18], none⟩]
noncomputable abbrev r97_7 : List RO := [
  ⟨.v 2, .mv, [(.con (.int .i64 (-1)))], none⟩]
theorem pe97 {n m : Nat} : (E97 n m).M = M := by unfold E97; rfl
theorem ie97 {n m : Nat} {hp : Hp} {a0 a1 : D} : St.init (E97 n m) [a0, a1] hp = ⟨[a0, a1, .u0, .u0, .u0, .u0, .u0, .u0], [], hp⟩ := by unfold E97; rfl
noncomputable def c97 : RC := (.seq (.reg r97_0) (.seq (.seq (.reg r97_1) (.block 0 (.loop (.seq (.reg r97_2) (.seq (.cond (.v 6) .skip (.exit 0)) (.seq (.block 1 (.seq (.reg r97_3) (.seq (.reg r97_4) (.cond (.v 7) (.seq (.reg r97_5) .ret) .skip)))) (.reg r97_6))))))) (.seq (.reg r97_7) .ret)))
noncomputable def q97 : List RR := [(.slot (.v 2))]
theorem k97 : FnOk M 97 2 Tryz.f97 E97 c97 q97 := fnOk Tryz.func97
noncomputable def E74 (n m : Nat) : Cfg := ⟨M, [0, 1, 4], 9, n, m, []⟩
noncomputable abbrev r74_0 : List RO := [
  ⟨.v 2, .mv, [.con (.bool false)], none⟩]
noncomputable abbrev r74_1 : List RO := [
  ⟨.l 5, .mv, [.v 0], none⟩,
  ⟨.l 6, .mv, [.v 1], none⟩,
  ⟨.l 7, .call, [(.con (.fn (.func 97) [] [])), .l 5, .l 6], none⟩,
  ⟨.l 8, .bin .geq, [.l 7, .con (.int .i64 0)], none⟩,
  ⟨.v 2, .mv, [.l 8], none⟩]
theorem pe74 {n m : Nat} : (E74 n m).M = M := by unfold E74; rfl
theorem ie74 {n m : Nat} {hp : Hp} {a0 a1 : D} : St.init (E74 n m) [a0, a1] hp = ⟨[a0, a1, .u0], [], hp⟩ := by unfold E74; rfl
noncomputable def c74 : RC := (.seq (.reg r74_0) (.seq (.reg r74_1) .ret))
noncomputable def q74 : List RR := [(.slot (.v 2))]
theorem k74 : FnOk M 74 2 Tryz.f74 E74 c74 q74 := fnOk Tryz.func74
noncomputable def E75 (n m : Nat) : Cfg := ⟨M, [0, 1, 2, 3], 8, n, m, []⟩
noncomputable abbrev r75_0 : List RO := [
  ⟨.v 2, .box, [.v 0], none⟩,
  ⟨.v 3, .mv, [.con (.bool false)], none⟩]
noncomputable abbrev r75_1 : List RO := [
  ⟨.l 4, .ld true 6, [.v 2], none⟩,
  ⟨.l 5, .ld false 1, [.v 1], none⟩,
  ⟨.l 6, .call, [(.con (.fn (.func 39) [] [])), .l 4, .l 5], none⟩,
  ⟨.l 7, .un .not, [.l 6], none⟩,
  ⟨.v 3, .mv, [.l 7], none⟩]
theorem pe75 {n m : Nat} : (E75 n m).M = M := by unfold E75; rfl
theorem ie75 {n m : Nat} {hp : Hp} {a0 a1 : D} : St.init (E75 n m) [a0, a1] hp = ⟨[a0, a1, .u0, .u0], [], hp⟩ := by unfold E75; rfl
noncomputable def c75 : RC := (.seq (.reg r75_0) (.seq (.reg r75_1) .ret))
noncomputable def q75 : List RR := [(.slot (.v 3))]
theorem k75 : FnOk M 75 2 Tryz.f75 E75 c75 q75 := fnOk Tryz.func75
noncomputable def E39 (n m : Nat) : Cfg := ⟨M, [0, 1, 2, 3, 4], 15, n, m, []⟩
noncomputable def C39 : Cfg := E39 0 0
noncomputable abbrev r39_0 : List RO := [
  ⟨.v 2, .box, [.v 0], none⟩,
  ⟨.v 3, .box, [.v 1], none⟩,
  ⟨.v 4, .mv, [.con (.bool false)], none⟩]
noncomputable abbrev r39_1 : List RO := [
  ⟨.l 5, .ld false 1, [.v 3], none⟩,
  ⟨.l 6, .ld true 6, [.v 2], none⟩,
  ⟨.l 7, .call, [.l 5, .l 6], none⟩,
  ⟨.l 8, .mv, [.l 7], none⟩,
  ⟨.l 9, .fld 5, [.v 2], (some (.l 8, true))⟩,
  ⟨.l 10, .ld false 1, [.l 9], (some (.l 8, true))⟩,
  ⟨.l 11, (.mkF (.func 75) 0), [.v 3], (some (.l 8, true))⟩,
  ⟨.l 12, .call, [(.con (.fn (.func 74) [] [])), .l 10, .l 11], (some (.l 8, true))⟩,
  ⟨.l 13, .un .not, [.l 12], (some (.l 8, true))⟩,
  ⟨.l 14, .pick, [.l 8, .l 13, .con (.bool false)], none⟩,
  ⟨.v 4, .mv, [.l 14], none⟩]
theorem P39 : C39.M = M := by unfold C39 E39; rfl
theorem pe39 {n m : Nat} : (E39 n m).M = M := by unfold E39; rfl
theorem i39 {a0 a1 : D} : St.init C39 [a0, a1] ⟨[], []⟩ = ⟨[a0, a1, .u0, .u0, .u0], [], ⟨[], []⟩⟩ := by unfold C39 E39; rfl
theorem ie39 {n m : Nat} {hp : Hp} {a0 a1 : D} : St.init (E39 n m) [a0, a1] hp = ⟨[a0, a1, .u0, .u0, .u0], [], hp⟩ := by unfold E39; rfl
noncomputable def c39 : RC := (.seq (.reg r39_0) (.seq (.reg r39_1) .ret))
noncomputable def q39 : List RR := [(.slot (.v 4))]
theorem k39 : FnOk M 39 2 Tryz.f39 E39 c39 q39 := fnOk Tryz.func39
noncomputable def E73 (n m : Nat) : Cfg := ⟨M, [0, 1, 3], 8, n, m, []⟩
noncomputable abbrev r73_0 : List RO := [
  ⟨.l 2, .box, [.v 0], none⟩,
  ⟨.v 2, .mv, [.con (.bool false)], none⟩]
noncomputable abbrev r73_1 : List RO := [
  ⟨.l 4, .ld false 1, [.v 1], none⟩,
  ⟨.l 5, .bin .add, [.l 4, .con (.int .i64 1)], none⟩,
  ⟨.none, .st 1, [.v 1, .l 5], none⟩]
noncomputable abbrev r73_2 : List RO := [
  ⟨.l 6, .ld false 1, [.v 1], none⟩,
  ⟨.l 7, .bin .leq, [.l 6, .con (.int .i64 60)], none⟩,
  ⟨.v 2, .mv, [.l 7], none⟩]
theorem pe73 {n m : Nat} : (E73 n m).M = M := by unfold E73; rfl
theorem ie73 {n m : Nat} {hp : Hp} {a0 a1 : D} : St.init (E73 n m) [a0, a1] hp = ⟨[a0, a1, .u0], [], hp⟩ := by unfold E73; rfl
noncomputable def c73 : RC := (.seq (.reg r73_0) (.seq (.reg r73_1) (.seq (.reg r73_2) .ret)))
noncomputable def q73 : List RR := [(.slot (.v 2))]
theorem k73 : FnOk M 73 2 Tryz.f73 E73 c73 q73 := fnOk Tryz.func73
noncomputable def E38 (n m : Nat) : Cfg := ⟨M, [0, 1, 2, 3], 8, n, m, []⟩
noncomputable def C38 : Cfg := E38 0 0
noncomputable abbrev r38_0 : List RO := [
  ⟨.v 1, .box, [.v 0], none⟩,
  ⟨.v 2, .mv, [.con (.int .i64 0)], none⟩]
noncomputable abbrev r38_1 : List RO := [
  ⟨.v 3, (.newb [(.int .i64 0)]), [], none⟩,
  ⟨.none, .st 1, [.v 3, .con (.int .i64 0)], none⟩]
noncomputable abbrev r38_2 : List RO := [
  ⟨.l 4, .ld true 6, [.v 1], none⟩,
  ⟨.l 5, (.mkF (.func 73) 0), [.v 3], none⟩,
  ⟨.l 6, .call, [(.con (.fn (.func 39) [] [])), .l 4, .l 5], none⟩]
noncomputable abbrev r38_3 : List RO := [
  ⟨.l 7, .ld false 1, [.v 3], none⟩,
  ⟨.v 2, .mv, [.l 7], none⟩]
theorem P38 : C38.M = M := by unfold C38 E38; rfl
theorem i38 {a0 : D} : St.init C38 [a0] ⟨[], []⟩ = ⟨[a0, .u0, .u0, .u0], [], ⟨[], []⟩⟩ := by unfold C38 E38; rfl
noncomputable def c38 : RC := (.seq (.reg r38_0) (.seq (.reg r38_1) (.seq (.reg r38_2) (.seq (.reg r38_3) .ret))))
noncomputable def q38 : List RR := [(.slot (.v 2))]
theorem k38 : FnOk M 38 1 Tryz.f38 E38 c38 q38 := fnOk Tryz.func38
noncomputable def E23 (n m : Nat) : Cfg := ⟨M, [0, 1, 2], 22, n, m, []⟩
noncomputable def C23 : Cfg := E23 0 0
noncomputable abbrev r23_0 : List RO := [
  ⟨.v 1, .box, [.v 0], none⟩,
  ⟨.v 2, .mv, [.con (.bool false)], none⟩]
noncomputable abbrev r23_1 : List RO := [
  ⟨.l 3, .fld 0, [.v 1], none⟩,
  ⟨.l 4, .ld false 1, [.l 3], none⟩,
  ⟨.l 5, .call, [(.con (.fn (.func 28) [] [])), .l 4], none⟩,
  ⟨.l 6, .mv, [.l 5], none⟩,
  ⟨.l 7, .fld 1, [.v 1], (some (.l 6, true))⟩,
  ⟨.l 8, .ld false 1, [.l 7], (some (.l 6, true))⟩,
  ⟨.l 9, .call, [(.con (.fn (.func 28) [] [])), .l 8], (some (.l 6, true))⟩,
  ⟨.l 10, .pick, [.l 6, .l 9, .con (.bool false)], none⟩,
  ⟨.l 11, .mv, [.l 10], none⟩,
  ⟨.l 12, .fld 2, [.v 1], (some (.l 11, true))⟩,
  ⟨.l 13, .ld true 6, [.l 12], (some (.l 11, true))⟩,
  ⟨.l 14, .call, [(.con (.fn (.func 38) [] [])), .l 13], (some (.l 11, true))⟩,
  ⟨.l 15, .bin .leq, [.l 14, .con (.int .i64 60)], (some (.l 11, true))⟩,
  ⟨.l 16, .pick, [.l 11, .l 15, .con (.bool false)], none⟩,
  ⟨.l 17, .mv, [.l 16], none⟩,
  ⟨.l 18, .fld 2, [.v 1], (some (.l 17, true))⟩,
  ⟨.l 19, .ld true 6, [.l 18], (some (.l 17, true))⟩,
  ⟨.l 20, .call, [(.con (.fn (.func 39) [] [])), .l 19, (.con (.fn (.func 40) [] []))], (some (.l 17, true))⟩,
  ⟨.l 21, .pick, [.l 17, .l 20, .con (.bool false)], none⟩,
  ⟨.v 2, .mv, [.l 21], none⟩]
theorem P23 : C23.M = M := by unfold C23 E23; rfl
theorem i23 {a0 : D} : St.init C23 [a0] ⟨[], []⟩ = ⟨[a0, .u0, .u0], [], ⟨[], []⟩⟩ := by unfold C23 E23; rfl
noncomputable def c23 : RC := (.seq (.reg r23_0) (.seq (.reg r23_1) .ret))
noncomputable def q23 : List RR := [(.slot (.v 2))]
theorem k23 : FnOk M 23 1 Tryz.f23 E23 c23 q23 := fnOk Tryz.func23
end Go.Proofs.YtcchbohfcmfmlaaGreat
end
section
set_option maxRecDepth 100000
namespace Go.Proofs.YtcchbohfcmfmlaaGreat
open Go GoV
noncomputable def E41 (n m : Nat) : Cfg := ⟨M, [0, 1, 2, 4, 5, 7, 9, 10, 11, 12, 18], 22, n, m, []⟩
noncomputable def C41 : Cfg := E41 0 0
noncomputable abbrev r41_0 : List RO := [
  ⟨.v 2, .box, [.v 0], none⟩,
  ⟨.v 3, (.newb [(.str []), (.str []), (.str []), (.str []), (.int .i64 0), (.int .i64 0), (.bool false), (.lit (.slice none 0 0)), (.int .i64 0), (.int .i64 0), (.int .i64 0), (.int .i64 0), (.int .i64 0), (.int .i64 0)]), [], none⟩,
  ⟨.v 4, .mv, [.con (.bool false)], none⟩]
noncomputable abbrev r41_1 : List RO := [
  ⟨.l 8, .fld 0, [.v 2], none⟩,
  ⟨.v 6, .ld false 1, [.l 8], none⟩,
  ⟨.v 7, .lenL, [.v 6], none⟩,
  ⟨.v 8, .mv, [.con (.int .i64 0)], none⟩]
noncomputable abbrev r41_2 : List RO := [
  ⟨.v 9, .bin .lss, [.v 8, .v 7], none⟩]
noncomputable abbrev r41_3 : List RO := [
  ⟨.l 13, .ixaS 14, [.v 6, .v 8], none⟩,
  ⟨.l 14, .ld true 14, [.l 13], none⟩,
  ⟨.v 5, (.newb [(.str []), (.str []), (.str []), (.str []), (.int .i64 0), (.int .i64 0), (.bool false), (.lit (.slice none 0 0)), (.int .i64 0), (.int .i64 0), (.int .i64 0), (.int .i64 0), (.int .i64 0), (.int .i64 0)]), [], none⟩,
  ⟨.none, .st 14, [.v 5, .l 14], none⟩]
noncomputable abbrev r41_4 : List RO := [
  ⟨.l 15, .fld 0, [.v 5], none⟩,
  ⟨.l 16, .ld false 1, [.l 15], none⟩,
  ⟨.l 17, .mv, [.v 1], none⟩,
  ⟨.v 10, .bin .eql, [.l 16, .l 17], none⟩]
noncomputable abbrev r41_5 : List RO := [
  ⟨.l 19, .ld true 14, [.v 5], none⟩,
  ⟨.none, .st 14, [.v 3, .l 19], none⟩,
  ⟨.v 4, .mv, [.con (.bool true)], none⟩]
noncomputable abbrev r41_6 : List RO := [
  ⟨.l 20, .bin .add, [.v 8, .con (.int .i64 1)], none⟩,
  ⟨.v 8, .mv, [.l 20], none⟩]
noncomputable abbrev r41_7 : List RO := [
  ⟨.l 21, (.bld [(.str []), (.str []), (.str []), (.str []), (.int .i64 0), (.int .i64 0), (.bool false), (.lit (.slice none 0 0)), (.int .i64 0), (.int .i64 0), (.int .i64 0), (.int .i64 0), (.int .i64 0), (.int .i64 0)] []), [], none⟩,
  ⟨.none, .st 14, [.v 3, .l 21], none⟩,
  ⟨.v 4, .mv, [.con (.bool false)], none⟩]
theorem P41 : C41.M = M := by unfold C41 E41; rfl
theorem i41 {a0 a1 : D} : St.init C41 [a0, a1] ⟨[], []⟩ = ⟨[a0, a1, .u0, .u0, .u0, .u0, .u0, .u0, .u0, .u0, .u0], [], ⟨[], []⟩⟩ := by unfold C41 E41; rfl
noncomputable def c41 : RC := (.seq (.reg r41_0) (.seq (.seq (.reg r41_1) (.block 0 (.loop (.seq (.reg r41_2) (.seq (.cond (.v 9) .skip (.exit 0)) (.seq (.block 1 (.seq (.reg r41_3) (.seq (.reg r41_4) (.cond (.v 10) (.seq (.reg r41_5) .ret) .skip)))) (.reg r41_6))))))) (.seq (.reg r41_7) .ret)))
noncomputable def q41 : List RR := [(.cell (.v 3) true 14), (.slot (.v 4))]
theorem k41 : FnOk M 41 2 Tryz.f41 E41 c41 q41 := fnOk Tryz.func41
noncomputable def E17 (n m : Nat) : Cfg := ⟨M, [0, 1, 2, 3, 4, 5, 7, 13, 14, 15, 16, 29], 37, n, m, []⟩
noncomputable abbrev r17_0 : List RO := [
  ⟨.v 1, .box, [.v 0], none⟩,
  ⟨.v 2, (.newb [(.lit (.slice none 0 0)), (.lit (.map none))]), [], none⟩]
noncomputable abbrev r17_1 : List RO := [
  ⟨.l 8, .fld 0, [.v 1], none⟩,
  ⟨.l 9, .ld false 1, [.l 8], none⟩,
  ⟨.l 10, .newM, [], none⟩,
  ⟨.l 11, (.bld [(.lit (.slice none 0 0)), (.lit (.map none))] [(0, 1), (1, 1)]), [.l 9, .l 10], none⟩,
  ⟨.v 3, (.newb [(.lit (.slice none 0 0)), (.lit (.map none))]), [], none⟩,
  ⟨.none, .st 2, [.v 3, .l 11], none⟩]
noncomputable abbrev r17_2 : List RO := [
  ⟨.l 12, .fld 0, [.v 1], none⟩,
  ⟨.v 7, .ld false 1, [.l 12], none⟩,
  ⟨.v 8, .lenL, [.v 7], none⟩,
  ⟨.v 9, .mv, [.con (.int .i64 0)], none⟩]
noncomputable abbrev r17_3 : List RO := [
  ⟨.v 10, .bin .lss, [.v 9, .v 8], none⟩]
noncomputable abbrev r17_4 : List RO := [
  ⟨.l 17, .mv, [.v 9], none⟩,
  ⟨.l 18, .ixaS 14, [.v 7, .v 9], none⟩,
  ⟨.l 19, .ld true 14, [.l 18], none⟩,
  ⟨.v 5, (.newb [(.str []), (.str []), (.str []), (.str []), (.int .i64 0), (.int .i64 0), (.bool false), (.lit (.slice none 0 0)), (.int .i64 0), (.int .i64 0), (.int .i64 0), (.int .i64 0), (.int .i64 0), (.int .i64 0)]), [], none⟩,
  ⟨.v 4, .mv, [.l 17], none⟩,
  ⟨.none, .st 14, [.v 5, .l 19], none⟩]
noncomputable abbrev r17_5 : List RO := [
  ⟨.l 21, .fld 1, [.v 3], none⟩,
  ⟨.l 22, .ld false 1, [.l 21], none⟩,
  ⟨.l 23, .fld 0, [.v 5], none⟩,
  ⟨.l 24, .ld false 1, [.l 23], none⟩,
  ⟨.l 25, (.lkp .str true (.int .i64 0)), [.l 22, .l 24], none⟩,
  ⟨.l 20, .mv, [.l 25], none⟩,
  ⟨.l 26, .ext 0, [.l 20], none⟩,
  ⟨.l 27, .ext 1, [.l 20], none⟩,
  ⟨.l 6, .mv, [.l 26], none⟩,
  ⟨.v 6, .mv, [.l 27], none⟩]
noncomputable abbrev r17_6 : List RO := [
  ⟨.l 28, .mv, [.v 6], none⟩,
  ⟨.v 11, .un .not, [.l 28], none⟩]
noncomputable abbrev r17_7 : List RO := [
  ⟨.l 30, .fld 1, [.v 3], none⟩,
  ⟨.l 31, .ld false 1, [.l 30], none⟩,
  ⟨.l 32, .fld 0, [.v 5], none⟩,
  ⟨.l 33, .ld false 1, [.l 32], none⟩,
  ⟨.l 34, .mv, [.v 4], none⟩,
  ⟨.none, .mpu .str, [.l 31, .l 33, .l 34], none⟩]
noncomputable abbrev r17_8 : List RO := [
  ⟨.l 35, .bin .add, [.v 9, .con (.int .i64 1)], none⟩,
  ⟨.v 9, .mv, [.l 35], none⟩]
noncomputable abbrev r17_9 : List RO := [
  ⟨.l 36, .ld true 2, [.v 3], none⟩,
  ⟨.none, .st 2, [.v 2, .l 36], none⟩]
theorem pe17 {n m : Nat} : (E17 n m).M = M := by unfold E17; rfl
theorem ie17 {n m : Nat} {hp : Hp} {a0 : D} : St.init (E17 n m) [a0] hp = ⟨[a0, .u0, .u0, .u0, .u0, .u0, .u0, .u0, .u0, .u0, .u0, .u0], [], hp⟩ := by unfold E17; rfl
noncomputable def c17 : RC := (.seq (.reg r17_0) (.seq (.reg r17_1) (.seq (.seq (.reg r17_2) (.block 0 (.loop (.seq (.reg r17_3) (.seq (.cond (.v 10) .skip (.exit 0)) (.seq (.block 1 (.seq (.reg r17_4) (.seq (.reg r17_5) (.seq (.reg r17_6) (.cond (.v 11) (.reg r17_7) .skip))))) (.reg r17_8))))))) (.seq (.reg r17_9) .ret))))
noncomputable def q17 : List RR := [(.cell (.v 2) true 2)]
theorem k17 : FnOk M 17 1 Tryz.f17 E17 c17 q17 := fnOk Tryz.func17
noncomputable def E19 (n m : Nat) : Cfg := ⟨M, [0, 1, 2, 4, 5, 6, 7, 16], 23, n, m, []⟩
noncomputable abbrev r19_0 : List RO := [
  ⟨.v 2, .box, [.v 0], none⟩,
  ⟨.v 3, (.newb [(.str []), (.str []), (.str []), (.str []), (.int .i64 0), (.int .i64 0), (.bool false), (.lit (.slice none 0 0)), (.int .i64 0), (.int .i64 0), (.int .i64 0), (.int .i64 0), (.int .i64 0), (.int .i64 0)]), [], none⟩,
  ⟨.v 4, .mv, [.con (.bool false)], none⟩]
noncomputable abbrev r19_1 : List RO := [
  ⟨.l 9, .fld 1, [.v 2], none⟩,
  ⟨.l 10, .ld false 1, [.l 9], none⟩,
  ⟨.l 11, .mv, [.v 1], none⟩,
  ⟨.l 12, (.lkp .str true (.int .i64 0)), [.l 10, .l 11], none⟩,
  ⟨.l 8, .mv, [.l 12], none⟩,
  ⟨.l 13, .ext 0, [.l 8], none⟩,
  ⟨.l 14, .ext 1, [.l 8], none⟩,
  ⟨.v 5, .mv, [.l 13], none⟩,
  ⟨.v 6, .mv, [.l 14], none⟩]
noncomputable abbrev r19_2 : List RO := [
  ⟨.l 15, .mv, [.v 6], none⟩,
  ⟨.v 7, .un .not, [.l 15], none⟩]
noncomputable abbrev r19_3 : List RO := [
  ⟨.l 17, (.bld [(.str []), (.str []), (.str []), (.str []), (.int .i64 0), (.int .i64 0), (.bool false), (.lit (.slice none 0 0)), (.int .i64 0), (.int .i64 0), (.int .i64 0), (.int .i64 0), (.int .i64 0), (.int .i64 0)] []), [], none⟩,
  ⟨.none, .st 14, [.v 3, .l 17], none⟩,
  ⟨.v 4, .mv, [.con (.bool false)], none⟩]
noncomputable abbrev r19_4 : List RO := [
  ⟨.l 18, .fld 0, [.v 2], none⟩,
  ⟨.l 19, .ld false 1, [.l 18], none⟩,
  ⟨.l 20, .mv, [.v 5], none⟩,
  ⟨.l 21, .ixaS 14, [.l 19, .l 20], none⟩,
  ⟨.l 22, .ld true 14, [.l 21], none⟩,
  ⟨.none, .st 14, [.v 3, .l 22], none⟩,
  ⟨.v 4, .mv, [.con (.bool true)], none⟩]
theorem pe19 {n m : Nat} : (E19 n m).M = M := by unfold E19; rfl
theorem ie19 {n m : Nat} {hp : Hp} {a0 a1 : D} : St.init (E19 n m) [a0, a1] hp = ⟨[a0, a1, .u0, .u0, .u0, .u0, .u0, .u0], [], hp⟩ := by unfold E19; rfl
noncomputable def c19 : RC := (.seq (.reg r19_0) (.seq (.reg r19_1) (.seq (.seq (.reg r19_2) (.cond (.v 7) (.seq (.reg r19_3) .ret) .skip)) (.seq (.reg r19_4) .ret))))
noncomputable def q19 : List RR := [(.cell (.v 3) true 14), (.slot (.v 4))]
theorem k19 : FnOk M 19 2 Tryz.f19 E19 c19 q19 := fnOk Tryz.func19
noncomputable def E24 (n m : Nat) : Cfg := ⟨M, [0, 1, 2, 4, 5, 6, 7, 12, 13, 14, 22, 25], 30, n, m, []⟩
noncomputable def C24 : Cfg := E24 0 0
noncomputable abbrev r24_0 : List RO := [
  ⟨.v 2, .box, [.v 0], none⟩,
  ⟨.v 3, .mv, [(.con (.str []))], none⟩]
noncomputable abbrev r24_1 : List RO := [
  ⟨.l 8, .ld true 1, [.v 2], none⟩,
  ⟨.l 9, .call, [(.con (.fn (.func 17) [] [])), .l 8], none⟩,
  ⟨.v 4, (.newb [(.lit (.slice none 0 0)), (.lit (.map none))]), [], none⟩,
  ⟨.none, .st 2, [.v 4, .l 9], none⟩]
noncomputable abbrev r24_2 : List RO := [
  ⟨.l 10, .fld 0, [.v 2], none⟩,
  ⟨.l 11, .ld false 1, [.l 10], none⟩,
  ⟨.v 7, .lenL, [.l 11], none⟩,
  ⟨.v 8, .mv, [.con (.int .i64 0)], none⟩]
noncomputable abbrev r24_3 : List RO := [
  ⟨.v 9, .bin .lss, [.v 8, .v 7], none⟩]
noncomputable abbrev r24_4 : List RO := [
  ⟨.l 16, .ld true 2, [.v 4], none⟩,
  ⟨.l 17, .mv, [.v 1], none⟩,
  ⟨.l 18, .call, [(.con (.fn (.func 19) [] [])), .l 16, .l 17], none⟩,
  ⟨.l 15, .mv, [.l 18], none⟩,
  ⟨.l 19, .ext 0, [.l 15], none⟩,
  ⟨.l 20, .ext 1, [.l 15], none⟩,
  ⟨.v 5, (.newb [(.str []), (.str []), (.str []), (.str []), (.int .i64 0), (.int .i64 0), (.bool false), (.lit (.slice none 0 0)), (.int .i64 0), (.int .i64 0), (.int .i64 0), (.int .i64 0), (.int .i64 0), (.int .i64 0)]), [], none⟩,
  ⟨.none, .st 14, [.v 5, .l 19], none⟩,
  ⟨.v 6, .mv, [.l 20], none⟩]
noncomputable abbrev r24_5 : List RO := [
  ⟨.l 21, .mv, [.v 6], none⟩,
  ⟨.v 10, .un .not, [.l 21], none⟩]
noncomputable abbrev r24_6 : List RO := [
  ⟨.v 3, .mv, [(.con (.str []))], none⟩]
noncomputable abbrev r24_7 : List RO := [
  ⟨.l 23, .fld 2, [.v 5], none⟩,
  ⟨.l 24, .ld false 1, [.l 23], none⟩,
  ⟨.v 11, .bin .eql, [.l 24, (.con (.str []))], none⟩]
noncomputable abbrev r24_8 : List RO := [
  ⟨.l 26, .mv, [.v 1], none⟩,
  ⟨.v 3, .mv, [.l 26], none⟩]
noncomputable abbrev r24_9 : List RO := [
  ⟨.l 27, .fld 2, [.v 5], none⟩,
  ⟨.l 28, .ld false 1, [.l 27], none⟩,
  ⟨.v 1, .mv, [.l 28], none⟩]
noncomputable abbrev r24_10 : List RO := [
  ⟨.l 29, .bin .add, [.v 8, .con (.int .i64 1)], none⟩,
  ⟨.v 8, .mv, [.l 29], none⟩]
noncomputable abbrev r24_11 : List RO := [
  ⟨.v 3, .mv, [(.con (.str []))], none⟩]
theorem P24 : C24.M = M := by unfold C24 E24; rfl
theorem i24 {a0 a1 : D} : St.init C24 [a0, a1] ⟨[], []⟩ = ⟨[a0, a1, .u0, .u0, .u0, .u0, .u0, .u0, .u0, .u0, .u0, .u0], [], ⟨[], []⟩⟩ := by unfold C24 E24; rfl
noncomputable def c24 : RC := (.seq (.reg r24_0) (.seq (.reg r24_1) (.seq (.seq (.reg r24_2) (.block 0 (.loop (.seq (.reg r24_3) (.seq (.cond (.v 9) .skip (.exit 0)) (.seq (.block 1 (.seq (.reg r24_4) (.seq (.seq (.reg r24_5) (.cond (.v 10) (.seq (.reg r24_6) .ret) .skip)) (.seq (.seq (.reg r24_7) (.cond (.v 11) (.seq (.reg r24_8) .ret) .skip)) (.reg r24_9))))) (.reg r24_10))))))) (.seq (.reg r24_11) .ret))))
noncomputable def q24 : List RR := [(.slot (.v 3))]
theorem k24 : FnOk M 24 2 Tryz.f24 E24 c24 q24 := fnOk Tryz.func24
noncomputable def E96 (n m : Nat) : Cfg := ⟨M, [0, 2], 6, n, m, []⟩
noncomputable def C96 : Cfg := E96 0 0
noncomputable abbrev r96_0 : List RO := [
  ⟨.v 1, .mv, [.con (.bool false)], none⟩]
noncomputable abbrev r96_1 : List RO := [
  ⟨.l 3, .mv, [.v 0], none⟩,
  ⟨.l 4, .mv, [.v 0], none⟩,
  ⟨.l 5, .bin .neq, [.l 3, .l 4], none⟩,
  ⟨.v 1, .mv, [.l 5], none⟩]
theorem P96 : C96.M = M := by unfold C96 E96; rfl
theorem i96 {a0 : D} : St.init C96 [a0] ⟨[], []⟩ = ⟨[a0, .u0], [], ⟨[], []⟩⟩ := by unfold C96 E96; rfl
noncomputable def c96 : RC := (.seq (.reg r96_0) (.seq (.reg r96_1) .ret))
noncomputable def q96 : List RR := [(.slot (.v 1))]
theorem k96 : FnOk M 96 1 Tryz.f96 E96 c96 q96 := fnOk Tryz.func96
noncomputable def E68 (n m : Nat) : Cfg := ⟨M, [0, 1, 4], 17, n, m, []⟩
noncomputable def C68 : Cfg := E68 0 0
noncomputable abbrev r68_0 : List RO := [
  ⟨.v 2, .mv, [.con (.bool false)], none⟩]
noncomputable abbrev r68_1 : List RO := [
  ⟨.l 5, .mv, [.v 0], none⟩,
  ⟨.l 6, .call, [(.con (.fn (.func 96) [] [])), .l 5], none⟩,
  ⟨.l 7, .mv, [.l 6], none⟩,
  ⟨.l 8, .mv, [.v 1], (some (.l 7, true))⟩,
  ⟨.l 9, .call, [(.con (.fn (.func 96) [] [])), .l 8], (some (.l 7, true))⟩,
  ⟨.l 10, .un .not, [.l 9], (some (.l 7, true))⟩,
  ⟨.l 11, .pick, [.l 7, .l 10, .con (.bool false)], none⟩,
  ⟨.l 12, .mv, [.l 11], none⟩,
  ⟨.l 13, .mv, [.v 0], (some (.l 12, false))⟩,
  ⟨.l 14, .mv, [.v 1], (some (.l 12, false))⟩,
  ⟨.l 15, .bin .lss, [.l 13, .l 14], (some (.l 12, false))⟩,
  ⟨.l 16, .pick, [.l 12, .con (.bool true), .l 15], none⟩,
  ⟨.v 2, .mv, [.l 16], none⟩]
theorem P68 : C68.M = M := by unfold C68 E68; rfl
theorem i68 {a0 a1 : D} : St.init C68 [a0, a1] ⟨[], []⟩ = ⟨[a0, a1, .u0], [], ⟨[], []⟩⟩ := by unfold C68 E68; rfl
noncomputable def c68 : RC := (.seq (.reg r68_0) (.seq (.reg r68_1) .ret))
noncomputable def q68 : List RR := [(.slot (.v 2))]
theorem k68 : FnOk M 68 2 Tryz.f68 E68 c68 q68 := fnOk Tryz.func68
noncomputable def E62 (n m : Nat) : Cfg := ⟨M, [0, 1, 2, 6, 7, 12, 30], 49, n, m, []⟩
noncomputable def C62 : Cfg := E62 0 0
noncomputable abbrev r62_0 : List RO := [
  ⟨.l 8, .mv, [.v 1], none⟩,
  ⟨.l 9, .bin .add, [.l 8, .con (.int .i64 1)], none⟩,
  ⟨.v 3, .mv, [.l 9], none⟩]
noncomputable abbrev r62_1 : List RO := [
  ⟨.l 10, .mv, [.v 3], none⟩,
  ⟨.l 11, .mv, [.v 2], none⟩,
  ⟨.v 5, .bin .lss, [.l 10, .l 11], none⟩]
noncomputable abbrev r62_2 : List RO := [
  ⟨.l 15, .mv, [.v 3], none⟩,
  ⟨.v 4, .mv, [.l 15], none⟩]
noncomputable abbrev r62_3 : List (RO × Bool) := [
  (⟨.l 16, .mv, [.v 4], none⟩, true),
  (⟨.l 17, .mv, [.v 1], none⟩, true),
  (⟨.l 18, .bin .gtr, [.l 16, .l 17], none⟩, true),
  (⟨.l 19, .mv, [.l 18], none⟩, true),
  (⟨.l 20, .mv, [.v 0], (some (.l 19, true))⟩, true),
  (⟨.l 21, .mv, [.v 4], (some (.l 19, true))⟩, true),
  (⟨.l 22, .ixaS 1, [.l 20, .l 21], (some (.l 19, true))⟩, true),
  (⟨.l 23, .ld false 1, [.l 22], (some (.l 19, true))⟩, true),
  (⟨.l 24, .mv, [.v 0], (some (.l 19, true))⟩, true),
  (⟨.l 25, .mv, [.v 4], (some (.l 19, true))⟩, true),
  (⟨.l 26, .bin .sub, [.l 25, .con (.int .i64 1)], (some (.l 19, true))⟩, true),
  (⟨.l 27, .ixaS 1, [.l 24, .l 26], (some (.l 19, true))⟩, true),
  (⟨.l 28, .ld false 1, [.l 27], (some (.l 19, true))⟩, true)]
noncomputable abbrev r62_4 : List RO := [
  ⟨.l 29, .call, [(.con (.fn (.func 68) [] [])), .l 23, .l 28], (some (.l 19, true))⟩,
  ⟨.v 6, .pick, [.l 19, .l 29, .con (.bool false)], none⟩]
noncomputable abbrev r62_5 : List (RO × Bool) := [
  (⟨.l 33, .mv, [.v 0], none⟩, true),
  (⟨.l 34, .mv, [.v 4], none⟩, true),
  (⟨.l 35, .mv, [.v 0], none⟩, true),
  (⟨.l 36, .mv, [.v 4], none⟩, true),
  (⟨.l 37, .bin .sub, [.l 36, .con (.int .i64 1)], none⟩, true),
  (⟨.l 38, .mv, [.v 0], none⟩, true),
  (⟨.l 39, .mv, [.v 4], none⟩, true),
  (⟨.l 40, .bin .sub, [.l 39, .con (.int .i64 1)], none⟩, true),
  (⟨.l 41, .ixaS 1, [.l 38, .l 40], none⟩, true),
  (⟨.l 42, .ld false 1, [.l 41], none⟩, true),
  (⟨.l 43, .mv, [.v 0], none⟩, true),
  (⟨.l 44, .mv, [.v 4], none⟩, true),
  (⟨.l 45, .ixaS 1, [.l 43, .l 44], none⟩, true),
  (⟨.l 46, .ld false 1, [.l 45], none⟩, true),
  (⟨.l 47, .ixaS 1, [.l 33, .l 34], none⟩, true),
  (⟨.none, .st 1, [.l 47, .l 42], none⟩, false)]
noncomputable abbrev r62_6 : List RO := [
  ⟨.l 48, .ixaS 1, [.l 35, .l 37], none⟩,
  ⟨.none, .st 1, [.l 48, .l 46], none⟩]
noncomputable abbrev r62_7 : List RO := [
  ⟨.l 31, .mv, [.v 4], none⟩,
  ⟨.l 32, .bin .sub, [.l 31, .con (.int .i64 1)], none⟩,
  ⟨.v 4, .mv, [.l 32], none⟩]
noncomputable abbrev r62_8 : List RO := [
  ⟨.l 13, .mv, [.v 3], none⟩,
  ⟨.l 14, .bin .add, [.l 13, .con (.int .i64 1)], none⟩,
  ⟨.v 3, .mv, [.l 14], none⟩]
theorem P62 : C62.M = M := by unfold C62 E62; rfl
theorem pe62 {n m : Nat} : (E62 n m).M = M := by unfold E62; rfl
theorem i62 {a0 a1 a2 : D} : St.init C62 [a0, a1, a2] ⟨[], []⟩ = ⟨[a0, a1, a2, .u0, .u0, .u0, .u0], [], ⟨[], []⟩⟩ := by unfold C62 E62; rfl
theorem ie62 {n m : Nat} {hp : Hp} {a0 a1 a2 : D} : St.init (E62 n m) [a0, a1, a2] hp = ⟨[a0, a1, a2, .u0, .u0, .u0, .u0], [], hp⟩ := by unfold E62; rfl
noncomputable def c62 : RC := (.seq (.reg r62_0) (.block 0 (.loop (.seq (.seq (.reg r62_1) (.cond (.v 5) .skip (.exit 0))) (.seq (.block 1 (.seq (.reg r62_2) (.block 2 (.loop (.seq (.seq (.regD r62_3 r62_4) (.cond (.v 6) .skip (.exit 2))) (.seq (.block 3 (.regD r62_5 r62_6)) (.reg r62_7))))))) (.reg r62_8))))))
noncomputable def q62 : List RR := []
theorem k62 : FnOk M 62 3 Tryz.f62 E62 c62 q62 := fnOk Tryz.func62
noncomputable def E36 (n m : Nat) : Cfg := ⟨M, [0, 1, 2, 3, 8, 9, 10, 11, 12, 13, 14, 15, 16, 17, 18, 23, 29, 35, 50, 68, 72, 87, 113], 134, n, m, []⟩
noncomputable def C36 : Cfg := E36 0 0
noncomputable abbrev r36_0 : List RO := [
  ⟨.v 4, .mv, [.con (.bool true)], none⟩]
noncomputable abbrev r36_1 : List RO := [
  ⟨.v 5, .mv, [.con (.bool true)], none⟩]
noncomputable abbrev r36_2 : List RO := [
  ⟨.l 19, .mv, [.v 2], none⟩,
  ⟨.l 20, .mv, [.v 1], none⟩,
  ⟨.l 21, .bin .sub, [.l 19, .l 20], none⟩,
  ⟨.v 6, .mv, [.l 21], none⟩]
noncomputable abbrev r36_3 : List RO := [
  ⟨.l 22, .mv, [.v 6], none⟩,
  ⟨.v 15, .bin .leq, [.l 22, .con (.int .i64 12)], none⟩]
noncomputable abbrev r36_4 : List RO := [
  ⟨.l 24, .mv, [.v 0], none⟩,
  ⟨.l 25, .mv, [.v 1], none⟩,
  ⟨.l 26, .mv, [.v 2], none⟩,
  ⟨.l 27, .call, [(.con (.fn (.func 62) [] [])), .l 24, .l 25, .l 26], none⟩]
noncomputable abbrev r36_5 : List RO := [
  ⟨.l 28, .mv, [.v 3], none⟩,
  ⟨.v 16, .bin .eql, [.l 28, .con (.int .i64 0)], none⟩]
noncomputable abbrev r36_6 : List RO := [
  ⟨.l 30, .mv, [.v 0], none⟩,
  ⟨.l 31, .mv, [.v 1], none⟩,
  ⟨.l 32, .mv, [.v 2], none⟩,
  ⟨.l 33, .call, [(.con (.fn (.func 63) [] [])), .l 30, .l 31, .l 32], none⟩]
noncomputable abbrev r36_7 : List RO := [
  ⟨.l 34, .mv, [.v 4], none⟩,
  ⟨.v 17, .un .not, [.l 34], none⟩]
noncomputable abbrev r36_8 : List RO := [
  ⟨.l 36, .mv, [.v 0], none⟩,
  ⟨.l 37, .mv, [.v 1], none⟩,
  ⟨.l 38, .mv, [.v 2], none⟩,
  ⟨.l 39, .call, [(.con (.fn (.func 64) [] [])), .l 36, .l 37, .l 38], none⟩]
noncomputable abbrev r36_9 : List RO := [
  ⟨.l 40, .mv, [.v 3], none⟩,
  ⟨.l 41, .bin .sub, [.l 40, .con (.int .i64 1)], none⟩,
  ⟨.v 3, .mv, [.l 41], none⟩]
noncomputable abbrev r36_10 : List RO := [
  ⟨.l 43, .mv, [.v 0], none⟩,
  ⟨.l 44, .mv, [.v 1], none⟩,
  ⟨.l 45, .mv, [.v 2], none⟩,
  ⟨.l 46, .call, [(.con (.fn (.func 65) [] [])), .l 43, .l 44, .l 45], none⟩,
  ⟨.l 42, .mv, [.l 46], none⟩,
  ⟨.l 47, .ext 0, [.l 42], none⟩,
  ⟨.l 48, .ext 1, [.l 42], none⟩,
  ⟨.v 7, .mv, [.l 47], none⟩,
  ⟨.v 8, .mv, [.l 48], none⟩]
noncomputable abbrev r36_11 : List RO := [
  ⟨.l 49, .mv, [.v 8], none⟩,
  ⟨.v 18, .bin .eql, [.l 49, .con (.int .i64 2)], none⟩]
noncomputable abbrev r36_12 : List RO := [
  ⟨.l 51, .mv, [.v 0], none⟩,
  ⟨.l 52, .mv, [.v 1], none⟩,
  ⟨.l 53, .mv, [.v 2], none⟩,
  ⟨.l 54, .call, [(.con (.fn (.func 66) [] [])), .l 51, .l 52, .l 53], none⟩]
noncomputable abbrev r36_13 : List RO := [
  ⟨.l 55, .mv, [.v 2], none⟩,
  ⟨.l 56, .bin .sub, [.l 55, .con (.int .i64 1)], none⟩,
  ⟨.l 57, .mv, [.v 7], none⟩,
  ⟨.l 58, .mv, [.v 1], none⟩,
  ⟨.l 59, .bin .sub, [.l 57, .l 58], none⟩,
  ⟨.l 60, .bin .sub, [.l 56, .l 59], none⟩,
  ⟨.v 7, .mv, [.l 60], none⟩]
noncomputable abbrev r36_14 : List RO := [
  ⟨.v 8, .mv, [.con (.int .i64 1)], none⟩]
noncomputable abbrev r36_15 : List RO := [
  ⟨.l 61, .mv, [.v 4], none⟩,
  ⟨.l 62, .mv, [.l 61], none⟩,
  ⟨.l 63, .mv, [.v 5], (some (.l 62, true))⟩,
  ⟨.l 64, .pick, [.l 62, .l 63, .con (.bool false)], none⟩,
  ⟨.l 65, .mv, [.l 64], none⟩,
  ⟨.l 66, .mv, [.v 8], (some (.l 65, true))⟩,
  ⟨.l 67, .bin .eql, [.l 66, .con (.int .i64 1)], (some (.l 65, true))⟩,
  ⟨.v 19, .pick, [.l 65, .l 67, .con (.bool false)], none⟩]
noncomputable abbrev r36_16 : List RO := [
  ⟨.l 69, .mv, [.v 0], none⟩,
  ⟨.l 70, .mv, [.v 1], none⟩,
  ⟨.l 71, .mv, [.v 2], none⟩,
  ⟨.v 20, .call, [(.con (.fn (.func 67) [] [])), .l 69, .l 70, .l 71], none⟩]
noncomputable abbrev r36_17 : List (RO × Bool) := [
  (⟨.l 73, .mv, [.v 1], none⟩, true),
  (⟨.l 74, .bin .gtr, [.l 73, .con (.int .i64 0)], none⟩, true),
  (⟨.l 75, .mv, [.l 74], none⟩, true),
  (⟨.l 76, .mv, [.v 0], (some (.l 75, true))⟩, true),
  (⟨.l 77, .mv, [.v 1], (some (.l 75, true))⟩, true),
  (⟨.l 78, .bin .sub, [.l 77, .con (.int .i64 1)], (some (.l 75, true))⟩, true),
  (⟨.l 79, .ixaS 1, [.l 76, .l 78], (some (.l 75, true))⟩, true),
  (⟨.l 80, .ld false 1, [.l 79], (some (.l 75, true))⟩, true),
  (⟨.l 81, .mv, [.v 0], (some (.l 75, true))⟩, true),
  (⟨.l 82, .mv, [.v 7], (some (.l 75, true))⟩, true),
  (⟨.l 83, .ixaS 1, [.l 81, .l 82], (some (.l 75, true))⟩, true),
  (⟨.l 84, .ld false 1, [.l 83], (some (.l 75, true))⟩, true)]
noncomputable abbrev r36_18 : List RO := [
  ⟨.l 85, .call, [(.con (.fn (.func 68) [] [])), .l 80, .l 84], (some (.l 75, true))⟩,
  ⟨.l 86, .un .not, [.l 85], (some (.l 75, true))⟩,
  ⟨.v 21, .pick, [.l 75, .l 86, .con (.bool false)], none⟩]
noncomputable abbrev r36_19 : List RO := [
  ⟨.l 88, .mv, [.v 0], none⟩,
  ⟨.l 89, .mv, [.v 1], none⟩,
  ⟨.l 90, .mv, [.v 2], none⟩,
  ⟨.l 91, .mv, [.v 7], none⟩,
  ⟨.l 92, .call, [(.con (.fn (.func 69) [] [])), .l 88, .l 89, .l 90, .l 91], none⟩,
  ⟨.v 9, .mv, [.l 92], none⟩]
noncomputable abbrev r36_20 : List RO := [
  ⟨.l 93, .mv, [.v 9], none⟩,
  ⟨.v 1, .mv, [.l 93], none⟩]
noncomputable abbrev r36_21 : List RO := [
  ⟨.l 95, .mv, [.v 0], none⟩,
  ⟨.l 96, .mv, [.v 1], none⟩,
  ⟨.l 97, .mv, [.v 2], none⟩,
  ⟨.l 98, .mv, [.v 7], none⟩,
  ⟨.l 99, .call, [(.con (.fn (.func 70) [] [])), .l 95, .l 96, .l 97, .l 98], none⟩,
  ⟨.l 94, .mv, [.l 99], none⟩,
  ⟨.l 100, .ext 0, [.l 94], none⟩,
  ⟨.l 101, .ext 1, [.l 94], none⟩,
  ⟨.v 10, .mv, [.l 100], none⟩,
  ⟨.v 11, .mv, [.l 101], none⟩]
noncomputable abbrev r36_22 : List RO := [
  ⟨.l 102, .mv, [.v 11], none⟩,
  ⟨.v 5, .mv, [.l 102], none⟩]
noncomputable abbrev r36_23 : List RO := [
  ⟨.l 103, .mv, [.v 10], none⟩,
  ⟨.l 104, .mv, [.v 1], none⟩,
  ⟨.l 105, .bin .sub, [.l 103, .l 104], none⟩,
  ⟨.l 106, .mv, [.v 2], none⟩,
  ⟨.l 107, .mv, [.v 10], none⟩,
  ⟨.l 108, .bin .sub, [.l 106, .l 107], none⟩,
  ⟨.v 12, .mv, [.l 105], none⟩,
  ⟨.v 13, .mv, [.l 108], none⟩]
noncomputable abbrev r36_24 : List RO := [
  ⟨.l 109, .mv, [.v 6], none⟩,
  ⟨.l 110, .bin .quo, [.l 109, .con (.int .i64 8)], none⟩,
  ⟨.v 14, .mv, [.l 110], none⟩]
noncomputable abbrev r36_25 : List RO := [
  ⟨.l 111, .mv, [.v 12], none⟩,
  ⟨.l 112, .mv, [.v 13], none⟩,
  ⟨.v 22, .bin .lss, [.l 111, .l 112], none⟩]
noncomputable abbrev r36_26 : List RO := [
  ⟨.l 114, .mv, [.v 12], none⟩,
  ⟨.l 115, .mv, [.v 14], none⟩,
  ⟨.l 116, .bin .geq, [.l 114, .l 115], none⟩,
  ⟨.v 4, .mv, [.l 116], none⟩]
noncomputable abbrev r36_27 : List RO := [
  ⟨.l 117, .mv, [.v 0], none⟩,
  ⟨.l 118, .mv, [.v 1], none⟩,
  ⟨.l 119, .mv, [.v 10], none⟩,
  ⟨.l 120, .mv, [.v 3], none⟩,
  ⟨.l 121, .call, [(.con (.fn (.func 36) [] [])), .l 117, .l 118, .l 119, .l 120], none⟩]
noncomputable abbrev r36_28 : List RO := [
  ⟨.l 122, .mv, [.v 10], none⟩,
  ⟨.l 123, .bin .add, [.l 122, .con (.int .i64 1)], none⟩,
  ⟨.v 1, .mv, [.l 123], none⟩]
noncomputable abbrev r36_29 : List RO := [
  ⟨.l 124, .mv, [.v 13], none⟩,
  ⟨.l 125, .mv, [.v 14], none⟩,
  ⟨.l 126, .bin .geq, [.l 124, .l 125], none⟩,
  ⟨.v 4, .mv, [.l 126], none⟩]
noncomputable abbrev r36_30 : List RO := [
  ⟨.l 127, .mv, [.v 0], none⟩,
  ⟨.l 128, .mv, [.v 10], none⟩,
  ⟨.l 129, .bin .add, [.l 128, .con (.int .i64 1)], none⟩,
  ⟨.l 130, .mv, [.v 2], none⟩,
  ⟨.l 131, .mv, [.v 3], none⟩,
  ⟨.l 132, .call, [(.con (.fn (.func 36) [] [])), .l 127, .l 129, .l 130, .l 131], none⟩]
noncomputable abbrev r36_31 : List RO := [
  ⟨.l 133, .mv, [.v 10], none⟩,
  ⟨.v 2, .mv, [.l 133], none⟩]
theorem P36 : C36.M = M := by unfold C36 E36; rfl
theorem pe36 {n m : Nat} : (E36 n m).M = M := by unfold E36; rfl
theorem i36 {a0 a1 a2 a3 : D} : St.init C36 [a0, a1, a2, a3] ⟨[], []⟩ = ⟨[a0, a1, a2, a3, .u0, .u0, .u0, .u0, .u0, .u0, .u0, .u0, .u0, .u0, .u0, .u0, .u0, .u0, .u0, .u0, .u0, .u0, .u0], [], ⟨[], []⟩⟩ := by unfold C36 E36; rfl
theorem ie36 {n m : Nat} {hp : Hp} {a0 a1 a2 a3 : D} : St.init (E36 n m) [a0, a1, a2, a3] hp = ⟨[a0, a1, a2, a3, .u0, .u0, .u0, .u0, .u0, .u0, .u0, .u0, .u0, .u0, .u0, .u0, .u0, .u0, .u0, .u0, .u0, .u0, .u0], [], hp⟩ := by unfold E36; rfl
noncomputable def c36 : RC := (.seq (.reg r36_0) (.seq (.reg r36_1) (.block 0 (.loop (.block 1 (.seq (.reg r36_2) (.seq (.seq (.reg r36_3) (.cond (.v 15) (.seq (.reg r36_4) .ret) .skip)) (.seq (.seq (.reg r36_5) (.cond (.v 16) (.seq (.reg r36_6) .ret) .skip)) (.seq (.seq (.reg r36_7) (.cond (.v 17) (.seq (.reg r36_8) (.reg r36_9)) .skip)) (.seq (.reg r36_10) (.seq (.seq (.reg r36_11) (.cond (.v 18) (.seq (.reg r36_12) (.seq (.reg r36_13) (.reg r36_14))) .skip)) (.seq (.seq (.reg r36_15) (.cond (.v 19) (.seq (.reg r36_16) (.cond (.v 20) .ret .skip)) .skip)) (.seq (.seq (.regD r36_17 r36_18) (.cond (.v 21) (.seq (.reg r36_19) (.seq (.reg r36_20) (.exit 1))) .skip)) (.seq (.reg r36_21) (.seq (.reg r36_22) (.seq (.reg r36_23) (.seq (.reg r36_24) (.seq (.reg r36_25) (.cond (.v 22) (.seq (.reg r36_26) (.seq (.reg r36_27) (.reg r36_28))) (.seq (.reg r36_29) (.seq (.reg r36_30) (.reg r36_31))))))))))))))))))))))
noncomputable def q36 : List RR := []
theorem k36 : FnOk M 36 4 Tryz.f36 E36 c36 q36 := fnOk Tryz.func36
noncomputable def E22 (n m : Nat) : Cfg := ⟨M, [0, 2], 11, n, m, []⟩
noncomputable def C22 : Cfg := E22 0 0
noncomputable abbrev r22_0 : List RO := [
  ⟨.l 3, .mv, [.v 0], none⟩,
  ⟨.l 4, .lenL, [.l 3], none⟩,
  ⟨.v 1, .mv, [.l 4], none⟩]
noncomputable abbrev r22_1 : List RO := [
  ⟨.l 5, .mv, [.v 0], none⟩,
  ⟨.l 6, .mv, [.v 1], none⟩,
  ⟨.l 7, .mv, [.v 1], none⟩,
  ⟨.l 8, .cvI .u64, [.l 7], none⟩,
  ⟨.l 9, .call, [(.con (.fn (.func 37) [] [])), .l 8], none⟩,
  ⟨.l 10, .call, [(.con (.fn (.func 36) [] [])), .l 5, .con (.int .i64 0), .l 6, .l 9], none⟩]
theorem P22 : C22.M = M := by unfold C22 E22; rfl
theorem pe22 {n m : Nat} : (E22 n m).M = M := by unfold E22; rfl
theorem i22 {a0 : D} : St.init C22 [a0] ⟨[], []⟩ = ⟨[a0, .u0], [], ⟨[], []⟩⟩ := by unfold C22 E22; rfl
theorem ie22 {n m : Nat} {hp : Hp} {a0 : D} : St.init (E22 n m) [a0] hp = ⟨[a0, .u0], [], hp⟩ := by unfold E22; rfl
noncomputable def c22 : RC := (.seq (.reg r22_0) (.reg r22_1))
noncomputable def q22 : List RR := []
theorem k22 : FnOk M 22 1 Tryz.f22 E22 c22 q22 := fnOk Tryz.func22
noncomputable def E7 (n m : Nat) : Cfg := ⟨M, [0, 1, 2, 4, 5, 7, 8, 9, 10, 11, 12, 13, 14, 15, 16, 18, 29, 33, 35, 46, 56, 58, 60, 66, 71, 72, 73, 74], 87, n, m, []⟩
noncomputable def C7 : Cfg := E7 0 0
noncomputable abbrev r7_0 : List RO := [
  ⟨.v 2, .box, [.v 0], none⟩,
  ⟨.v 3, .mv, [(.con (.lit (.slice none 0 0)))], none⟩]
noncomputable abbrev r7_1 : List RO := [
  ⟨.l 19, .ld true 1, [.v 2], none⟩,
  ⟨.l 20, .call, [(.con (.fn (.func 17) [] [])), .l 19], none⟩,
  ⟨.v 4, (.newb [(.lit (.slice none 0 0)), (.lit (.map none))]), [], none⟩,
  ⟨.none, .st 2, [.v 4, .l 20], none⟩]
noncomputable abbrev r7_2 : List RO := [
  ⟨.l 22, .fld 1, [.v 4], none⟩,
  ⟨.l 23, .ld false 1, [.l 22], none⟩,
  ⟨.l 24, .mv, [.v 1], none⟩,
  ⟨.l 25, (.lkp .str true (.int .i64 0)), [.l 23, .l 24], none⟩,
  ⟨.l 21, .mv, [.l 25], none⟩,
  ⟨.l 26, .ext 0, [.l 21], none⟩,
  ⟨.l 27, .ext 1, [.l 21], none⟩,
  ⟨.l 6, .mv, [.l 26], none⟩,
  ⟨.v 5, .mv, [.l 27], none⟩]
noncomputable abbrev r7_3 : List RO := [
  ⟨.l 28, .mv, [.v 5], none⟩,
  ⟨.v 16, .un .not, [.l 28], none⟩]
noncomputable abbrev r7_4 : List RO := [
  ⟨.v 3, .mv, [(.con (.lit (.slice none 0 0)))], none⟩]
noncomputable abbrev r7_5 : List RO := [
  ⟨.l 30, .newM, [], none⟩,
  ⟨.v 6, .mv, [.l 30], none⟩]
noncomputable abbrev r7_6 : List RO := [
  ⟨.l 31, .fld 1, [.v 4], none⟩,
  ⟨.l 32, .ld false 1, [.l 31], none⟩,
  ⟨.v 17, .rngM, [.l 32], none⟩]
noncomputable abbrev r7_7 : List RO := [
  ⟨.l 34, .nxtM, [.v 17], none⟩,
  ⟨.v 18, .ext 0, [.l 34], none⟩]
noncomputable abbrev r7_8 : List RO := [
  ⟨.l 36, .ent, [.v 17], none⟩,
  ⟨.l 37, .ext 0, [.l 36], none⟩,
  ⟨.l 38, .ext 1, [.l 36], none⟩,
  ⟨.v 7, .mv, [.l 37], none⟩,
  ⟨.v 8, .mv, [.l 38], none⟩]
noncomputable abbrev r7_9 : List RO := [
  ⟨.l 39, .fld 0, [.v 4], none⟩,
  ⟨.l 40, .ld false 1, [.l 39], none⟩,
  ⟨.l 41, .mv, [.v 8], none⟩,
  ⟨.l 42, .ixaS 14, [.l 40, .l 41], none⟩,
  ⟨.l 43, .fld 2, [.l 42], none⟩,
  ⟨.l 44, .ld false 1, [.l 43], none⟩,
  ⟨.v 9, .mv, [.l 44], none⟩]
noncomputable abbrev r7_10 : List RO := [
  ⟨.l 45, .mv, [.v 9], none⟩,
  ⟨.v 19, .bin .neq, [.l 45, (.con (.str []))], none⟩]
noncomputable abbrev r7_11 : List RO := [
  ⟨.l 47, .mv, [.v 6], none⟩,
  ⟨.l 48, .mv, [.v 7], none⟩,
  ⟨.l 49, .mv, [.v 9], none⟩,
  ⟨.none, .mpu .str, [.l 47, .l 48, .l 49], none⟩]
noncomputable abbrev r7_12 : List RO := [
  ⟨.l 50, .mv, [.v 6], none⟩,
  ⟨.l 51, .mv, [.v 1], none⟩,
  ⟨.none, .mdl .str, [.l 50, .l 51], none⟩]
noncomputable abbrev r7_13 : List RO := [
  ⟨.v 10, .mv, [(.con (.lit (.slice none 0 0)))], none⟩]
noncomputable abbrev r7_14 : List RO := [
  ⟨.l 52, .mv, [.v 1], none⟩,
  ⟨.l 53, .bsl 1, [.l 52], none⟩,
  ⟨.v 11, .mv, [.l 53], none⟩]
noncomputable abbrev r7_15 : List RO := [
  ⟨.l 54, .mv, [.v 11], none⟩,
  ⟨.l 55, .lenL, [.l 54], none⟩,
  ⟨.v 20, .bin .gtr, [.l 55, .con (.int .i64 0)], none⟩]
noncomputable abbrev r7_16 : List RO := [
  ⟨.v 12, .mv, [(.con (.lit (.slice none 0 0)))], none⟩]
noncomputable abbrev r7_17 : List RO := [
  ⟨.l 57, .mv, [.v 6], none⟩,
  ⟨.v 21, .rngM, [.l 57], none⟩]
noncomputable abbrev r7_18 : List RO := [
  ⟨.l 59, .nxtM, [.v 21], none⟩,
  ⟨.v 22, .ext 0, [.l 59], none⟩]
noncomputable abbrev r7_19 : List RO := [
  ⟨.l 61, .ent, [.v 21], none⟩,
  ⟨.l 62, .ext 0, [.l 61], none⟩,
  ⟨.l 63, .ext 1, [.l 61], none⟩,
  ⟨.v 13, .mv, [.l 62], none⟩,
  ⟨.v 14, .mv, [.l 63], none⟩]
noncomputable abbrev r7_20 : List RO := [
  ⟨.l 64, .mv, [.v 11], none⟩,
  ⟨.l 65, .mv, [.v 14], none⟩,
  ⟨.v 23, .call, [(.con (.fn (.func 21) [] [])), .l 64, .l 65], none⟩]
noncomputable abbrev r7_21 : List RO := [
  ⟨.l 67, .mv, [.v 12], none⟩,
  ⟨.l 68, .mv, [.v 13], none⟩,
  ⟨.l 69, .bsl 1, [.l 68], none⟩,
  ⟨.l 70, .app 1 16 9, [.l 67, .l 69], none⟩,
  ⟨.v 12, .mv, [.l 70], none⟩]
noncomputable abbrev r7_22 : List RO := [
  ⟨.v 24, .mv, [.v 12], none⟩,
  ⟨.v 25, .lenL, [.v 24], none⟩,
  ⟨.v 26, .mv, [.con (.int .i64 0)], none⟩]
noncomputable abbrev r7_23 : List RO := [
  ⟨.v 27, .bin .lss, [.v 26, .v 25], none⟩]
noncomputable abbrev r7_24 : List RO := [
  ⟨.l 75, .ixaS 1, [.v 24, .v 26], none⟩,
  ⟨.l 76, .ld false 1, [.l 75], none⟩,
  ⟨.v 15, .mv, [.l 76], none⟩]
noncomputable abbrev r7_25 : List RO := [
  ⟨.l 77, .mv, [.v 6], none⟩,
  ⟨.l 78, .mv, [.v 15], none⟩,
  ⟨.none, .mdl .str, [.l 77, .l 78], none⟩]
noncomputable abbrev r7_26 : List RO := [
  ⟨.l 79, .bin .add, [.v 26, .con (.int .i64 1)], none⟩,
  ⟨.v 26, .mv, [.l 79], none⟩]
noncomputable abbrev r7_27 : List RO := [
  ⟨.l 80, .mv, [.v 10], none⟩,
  ⟨.l 81, .mv, [.v 12], none⟩,
  ⟨.l 82, .app 1 16 9, [.l 80, .l 81], none⟩,
  ⟨.v 10, .mv, [.l 82], none⟩]
noncomputable abbrev r7_28 : List RO := [
  ⟨.l 83, .mv, [.v 12], none⟩,
  ⟨.v 11, .mv, [.l 83], none⟩]
noncomputable abbrev r7_29 : List RO := [
  ⟨.l 84, .mv, [.v 10], none⟩,
  ⟨.l 85, .call, [(.con (.fn (.func 22) [] [])), .l 84], none⟩]
noncomputable abbrev r7_30 : List RO := [
  ⟨.l 86, .mv, [.v 10], none⟩,
  ⟨.v 3, .mv, [.l 86], none⟩]
theorem P7 : C7.M = M := by unfold C7 E7; rfl
theorem pe7 {n m : Nat} : (E7 n m).M = M := by unfold E7; rfl
theorem i7 {a0 a1 : D} : St.init C7 [a0, a1] ⟨[], []⟩ = ⟨[a0, a1, .u0, .u0, .u0, .u0, .u0, .u0, .u0, .u0, .u0, .u0, .u0, .u0, .u0, .u0, .u0, .u0, .u0, .u0, .u0, .u0, .u0, .u0, .u0, .u0, .u0, .u0], [], ⟨[], []⟩⟩ := by unfold C7 E7; rfl
theorem ie7 {n m : Nat} {hp : Hp} {a0 a1 : D} : St.init (E7 n m) [a0, a1] hp = ⟨[a0, a1, .u0, .u0, .u0, .u0, .u0, .u0, .u0, .u0, .u0, .u0, .u0, .u0, .u0, .u0, .u0, .u0, .u0, .u0, .u0, .u0, .u0, .u0, .u0, .u0, .u0, .u0], [], hp⟩ := by unfold E7; rfl
noncomputable def c7 : RC := (.seq (.reg r7_0) (.seq (.reg r7_1) (.seq (.seq (.reg r7_2) (.seq (.reg r7_3) (.cond (.v 16) (.seq (.reg r7_4) .ret) .skip))) (.seq (.reg r7_5) (.seq (.seq (.reg r7_6) (.block 0 (.loop (.seq (.reg r7_7) (.seq (.cond (.v 18) .skip (.exit 0)) (.block 1 (.seq (.reg r7_8) (.seq (.reg r7_9) (.seq (.reg r7_10) (.cond (.v 19) (.reg r7_11) .skip)))))))))) (.seq (.reg r7_12) (.seq (.reg r7_13) (.seq (.seq (.reg r7_14) (.block 2 (.loop (.seq (.seq (.reg r7_15) (.cond (.v 20) .skip (.exit 2))) (.block 3 (.seq (.reg r7_16) (.seq (.seq (.reg r7_17) (.block 4 (.loop (.seq (.reg r7_18) (.seq (.cond (.v 22) .skip (.exit 4)) (.block 5 (.seq (.reg r7_19) (.seq (.reg r7_20) (.cond (.v 23) (.reg r7_21) .skip))))))))) (.seq (.seq (.reg r7_22) (.block 6 (.loop (.seq (.reg r7_23) (.seq (.cond (.v 27) .skip (.exit 6)) (.seq (.block 7 (.seq (.reg r7_24) (.reg r7_25))) (.reg r7_26))))))) (.seq (.reg r7_27) (.reg r7_28)))))))))) (.seq (.reg r7_29) (.seq (.reg r7_30) .ret))))))))))
noncomputable def q7 : List RR := [(.slot (.v 3))]
theorem k7 : FnOk M 7 2 Tryz.f7 E7 c7 q7 := fnOk Tryz.func7
noncomputable def E104 (n m : Nat) : Cfg := ⟨M, [0, 1, 4, 5, 7, 8, 9, 16], 19, n, m, []⟩
noncomputable abbrev r104_0 : List RO := [
  ⟨.v 2, .mv, [.con (.int .i64 0)], none⟩]
noncomputable abbrev r104_1 : List RO := [
  ⟨.l 6, .mv, [.v 0], none⟩,
  ⟨.v 4, .lenL, [.l 6], none⟩,
  ⟨.v 5, .mv, [.con (.int .i64 0)], none⟩]
noncomputable abbrev r104_2 : List RO := [
  ⟨.v 6, .bin .lss, [.v 5, .v 4], none⟩]
noncomputable abbrev r104_3 : List RO := [
  ⟨.l 10, .mv, [.v 5], none⟩,
  ⟨.v 3, .mv, [.l 10], none⟩]
noncomputable abbrev r104_4 : List RO := [
  ⟨.l 11, .mv, [.v 1], none⟩,
  ⟨.l 12, .mv, [.v 0], none⟩,
  ⟨.l 13, .mv, [.v 3], none⟩,
  ⟨.l 14, .ixaS 1, [.l 12, .l 13], none⟩,
  ⟨.l 15, .ld false 1, [.l 14], none⟩,
  ⟨.v 7, .call, [.l 11, .l 15], none⟩]
noncomputable abbrev r104_5 : List RO := [
  ⟨.l 17, .mv, [.v 3], none⟩,
  ⟨.v 2, .mv, [.l 17], none⟩]
noncomputable abbrev r104_6 : List RO := [
  ⟨.l 18, .bin .add, [.v 5, .con (.int .i64 1)], none⟩,
  ⟨.v 5, .mv, [.l 18], none⟩]
noncomputable abbrev r104_7 : List RO := [
  ⟨.v 2, .mv, [(.con (.int .i64 (-1)))], none⟩]
theorem pe104 {n m : Nat} : (E104 n m).M = M := by unfold E104; rfl
theorem ie104 {n m : Nat} {hp : Hp} {a0 a1 : D} : St.init (E104 n m) [a0, a1] hp = ⟨[a0, a1, .u0, .u0, .u0, .u0, .u0, .u0], [], hp⟩ := by unfold E104; rfl
noncomputable def c104 : RC := (.seq (.reg r104_0) (.seq (.seq (.reg r104_1) (.block 0 (.loop (.seq (.reg r104_2) (.seq (.cond (.v 6) .skip (.exit 0)) (.seq (.block 1 (.seq (.reg r104_3) (.seq (.reg r104_4) (.cond (.v 7) (.seq (.reg r104_5) .ret) .skip)))) (.reg r104_6))))))) (.seq (.reg r104_7) .ret)))
noncomputable def q104 : List RR := [(.slot (.v 2))]
theorem k104 : FnOk M 104 2 Tryz.f104 E104 c104 q104 := fnOk Tryz.func104
noncomputable def E85 (n m : Nat) : Cfg := ⟨M, [0, 1, 2, 4, 5], 18, n, m, []⟩
noncomputable abbrev r85_0 : List RO := [
  ⟨.v 3, .mv, [.con (.bool false)], none⟩]
noncomputable abbrev r85_1 : List RO := [
  ⟨.l 8, .fld 0, [.v 1], none⟩,
  ⟨.l 9, .ld true 1, [.l 8], none⟩,
  ⟨.l 10, .mv, [.v 0], none⟩,
  ⟨.l 11, .call, [(.con (.fn (.func 41) [] [])), .l 9, .l 10], none⟩,
  ⟨.l 7, .mv, [.l 11], none⟩,
  ⟨.l 12, .ext 0, [.l 7], none⟩,
  ⟨.l 13, .ext 1, [.l 7], none⟩,
  ⟨.v 4, (.newb [(.str []), (.str []), (.str []), (.str []), (.int .i64 0), (.int .i64 0), (.bool false), (.lit (.slice none 0 0)), (.int .i64 0), (.int .i64 0), (.int .i64 0), (.int .i64 0), (.int .i64 0), (.int .i64 0)]), [], none⟩,
  ⟨.none, .st 14, [.v 4, .l 12], none⟩,
  ⟨.l 6, .mv, [.l 13], none⟩]
noncomputable abbrev r85_2 : List RO := [
  ⟨.l 14, .fld 1, [.v 4], none⟩,
  ⟨.l 15, .ld false 1, [.l 14], none⟩,
  ⟨.l 16, .ld false 1, [.v 2], none⟩,
  ⟨.l 17, .bin .neq, [.l 15, .l 16], none⟩,
  ⟨.v 3, .mv, [.l 17], none⟩]
theorem pe85 {n m : Nat} : (E85 n m).M = M := by unfold E85; rfl
theorem ie85 {n m : Nat} {hp : Hp} {a0 a1 a2 : D} : St.init (E85 n m) [a0, a1, a2] hp = ⟨[a0, a1, a2, .u0, .u0], [], hp⟩ := by unfold E85; rfl
noncomputable def c85 : RC := (.seq (.reg r85_0) (.seq (.reg r85_1) (.seq (.reg r85_2) .ret)))
noncomputable def q85 : List RR := [(.slot (.v 3))]
theorem k85 : FnOk M 85 3 Tryz.f85 E85 c85 q85 := fnOk Tryz.func85
noncomputable def E84 (n m : Nat) : Cfg := ⟨M, [0, 1, 4, 5, 6, 7, 12, 19, 29], 42, n, m, []⟩
noncomputable abbrev r84_0 : List RO := [
  ⟨.v 2, .mv, [(.con (.lit (.slice none 0 0)))], none⟩]
noncomputable abbrev r84_1 : List RO := [
  ⟨.l 8, .mv, [.v 0], none⟩,
  ⟨.l 9, .mv, [.v 1], none⟩,
  ⟨.l 10, .call, [(.con (.fn (.func 104) [] [])), .l 8, .l 9], none⟩,
  ⟨.v 3, .mv, [.l 10], none⟩]
noncomputable abbrev r84_2 : List RO := [
  ⟨.l 11, .mv, [.v 3], none⟩,
  ⟨.v 6, .bin .eql, [.l 11, (.con (.int .i64 (-1)))], none⟩]
noncomputable abbrev r84_3 : List RO := [
  ⟨.l 13, .mv, [.v 0], none⟩,
  ⟨.v 2, .mv, [.l 13], none⟩]
noncomputable abbrev r84_4 : List RO := [
  ⟨.l 14, .mv, [.v 3], none⟩,
  ⟨.l 15, .bin .add, [.l 14, .con (.int .i64 1)], none⟩,
  ⟨.v 4, .mv, [.l 15], none⟩]
noncomputable abbrev r84_5 : List RO := [
  ⟨.l 16, .mv, [.v 4], none⟩,
  ⟨.l 17, .mv, [.v 0], none⟩,
  ⟨.l 18, .lenL, [.l 17], none⟩,
  ⟨.v 7, .bin .lss, [.l 16, .l 18], none⟩]
noncomputable abbrev r84_6 : List RO := [
  ⟨.l 22, .mv, [.v 0], none⟩,
  ⟨.l 23, .mv, [.v 4], none⟩,
  ⟨.l 24, .ixaS 1, [.l 22, .l 23], none⟩,
  ⟨.l 25, .ld false 1, [.l 24], none⟩,
  ⟨.v 5, .mv, [.l 25], none⟩]
noncomputable abbrev r84_7 : List RO := [
  ⟨.l 26, .mv, [.v 1], none⟩,
  ⟨.l 27, .mv, [.v 5], none⟩,
  ⟨.l 28, .call, [.l 26, .l 27], none⟩,
  ⟨.v 8, .un .not, [.l 28], none⟩]
noncomputable abbrev r84_8 : List RO := [
  ⟨.l 30, .mv, [.v 0], none⟩,
  ⟨.l 31, .mv, [.v 3], none⟩,
  ⟨.l 32, .mv, [.v 5], none⟩,
  ⟨.l 33, .ixaS 1, [.l 30, .l 31], none⟩,
  ⟨.none, .st 1, [.l 33, .l 32], none⟩]
noncomputable abbrev r84_9 : List RO := [
  ⟨.l 34, .mv, [.v 3], none⟩,
  ⟨.l 35, .bin .add, [.l 34, .con (.int .i64 1)], none⟩,
  ⟨.v 3, .mv, [.l 35], none⟩]
noncomputable abbrev r84_10 : List RO := [
  ⟨.l 20, .mv, [.v 4], none⟩,
  ⟨.l 21, .bin .add, [.l 20, .con (.int .i64 1)], none⟩,
  ⟨.v 4, .mv, [.l 21], none⟩]
noncomputable abbrev r84_11 : List RO := [
  ⟨.l 36, .mv, [.v 0], none⟩,
  ⟨.l 37, .mv, [.v 3], none⟩,
  ⟨.l 38, .slcL 1 true false, [.l 36, .l 37], none⟩,
  ⟨.none, (.clr 1 [(.str [])]), [.l 38], none⟩]
noncomputable abbrev r84_12 : List RO := [
  ⟨.l 39, .mv, [.v 0], none⟩,
  ⟨.l 40, .mv, [.v 3], none⟩,
  ⟨.l 41, .slcL 1 false true, [.l 39, .l 40], none⟩,
  ⟨.v 2, .mv, [.l 41], none⟩]
theorem pe84 {n m : Nat} : (E84 n m).M = M := by unfold E84; rfl
theorem ie84 {n m : Nat} {hp : Hp} {a0 a1 : D} : St.init (E84 n m) [a0, a1] hp = ⟨[a0, a1, .u0, .u0, .u0, .u0, .u0, .u0, .u0], [], hp⟩ := by unfold E84; rfl
noncomputable def c84 : RC := (.seq (.reg r84_0) (.seq (.reg r84_1) (.seq (.seq (.reg r84_2) (.cond (.v 6) (.seq (.reg r84_3) .ret) .skip)) (.seq (.seq (.reg r84_4) (.block 0 (.loop (.seq (.seq (.reg r84_5) (.cond (.v 7) .skip (.exit 0))) (.seq (.block 1 (.seq (.reg r84_6) (.seq (.reg r84_7) (.cond (.v 8) (.seq (.reg r84_8) (.reg r84_9)) .skip)))) (.reg r84_10)))))) (.seq (.reg r84_11) (.seq (.reg r84_12) .ret))))))
noncomputable def q84 : List RR := [(.slot (.v 2))]
theorem k84 : FnOk M 84 2 Tryz.f84 E84 c84 q84 := fnOk Tryz.func84
noncomputable def E55 (n m : Nat) : Cfg := ⟨M, [0, 1, 2, 3, 5, 6], 13, n, m, []⟩
noncomputable def C55 : Cfg := E55 0 0
noncomputable abbrev r55_0 : List RO := [
  ⟨.v 3, .box, [.v 0], none⟩,
  ⟨.v 4, .box, [.v 2], none⟩,
  ⟨.v 5, .mv, [(.con (.lit (.slice none 0 0)))], none⟩]
noncomputable abbrev r55_1 : List RO := [
  ⟨.l 7, .fld 0, [.v 3], none⟩,
  ⟨.l 8, .ld true 1, [.l 7], none⟩,
  ⟨.l 9, .mv, [.v 1], none⟩,
  ⟨.l 10, .call, [(.con (.fn (.func 7) [] [])), .l 8, .l 9], none⟩,
  ⟨.l 11, (.mkF (.func 85) 0), [.v 3, .v 4], none⟩,
  ⟨.l 12, .call, [(.con (.fn (.func 84) [] [])), .l 10, .l 11], none⟩,
  ⟨.v 5, .mv, [.l 12], none⟩]
theorem P55 : C55.M = M := by unfold C55 E55; rfl
theorem i55 {a0 a1 a2 : D} : St.init C55 [a0, a1, a2] ⟨[], []⟩ = ⟨[a0, a1, a2, .u0, .u0, .u0], [], ⟨[], []⟩⟩ := by unfold C55 E55; rfl
noncomputable def c55 : RC := (.seq (.reg r55_0) (.seq (.reg r55_1) .ret))
noncomputable def q55 : List RR := [(.slot (.v 5))]
theorem k55 : FnOk M 55 3 Tryz.f55 E55 c55 q55 := fnOk Tryz.func55
end Go.Proofs.YtcchbohfcmfmlaaGreat
end
section
set_option maxRecDepth 100000
namespace Go.Proofs.YtcchbohfcmfmlaaGreat
open Go GoV
noncomputable def E98 (n m : Nat) : Cfg := ⟨M, [0, 1, 4, 5, 8], 19, n, m, []⟩
noncomputable def C98 : Cfg := E98 0 0
noncomputable abbrev r98_0 : List RO := [
  ⟨.v 2, (.newb [(.int .i64 0), (.int .i64 0)]), [], none⟩]
noncomputable abbrev r98_1 : List RO := [
  ⟨.l 6, .mv, [.v 1], none⟩,
  ⟨.l 7, .mv, [.v 0], none⟩,
  ⟨.v 4, .bin .geq, [.l 6, .l 7], none⟩]
noncomputable abbrev r98_2 : List RO := [
  ⟨.l 9, (.bld [(.int .i64 0), (.int .i64 0)] []), [], none⟩,
  ⟨.none, .st 2, [.v 2, .l 9], none⟩]
noncomputable abbrev r98_3 : List RO := [
  ⟨.l 10, .mv, [.v 0], none⟩,
  ⟨.l 11, .mv, [.v 1], none⟩,
  ⟨.l 12, .mv, [.v 0], none⟩,
  ⟨.l 13, .bin .sub, [.l 12, .con (.int .i64 1000000000000)], none⟩,
  ⟨.l 14, .maxI, [.l 11, .l 13], none⟩,
  ⟨.l 15, .bin .sub, [.l 10, .l 14], none⟩,
  ⟨.v 3, .mv, [.l 15], none⟩]
noncomputable abbrev r98_4 : List RO := [
  ⟨.l 16, .mv, [.v 3], none⟩,
  ⟨.l 17, .mv, [.v 3], none⟩,
  ⟨.l 18, (.bld [(.int .i64 0), (.int .i64 0)] [(0, 1), (1, 1)]), [.l 16, .l 17], none⟩,
  ⟨.none, .st 2, [.v 2, .l 18], none⟩]
theorem P98 : C98.M = M := by unfold C98 E98; rfl
theorem i98 {a0 a1 : D} : St.init C98 [a0, a1] ⟨[], []⟩ = ⟨[a0, a1, .u0, .u0, .u0], [], ⟨[], []⟩⟩ := by unfold C98 E98; rfl
noncomputable def c98 : RC := (.seq (.reg r98_0) (.seq (.seq (.reg r98_1) (.cond (.v 4) (.seq (.reg r98_2) .ret) .skip)) (.seq (.reg r98_3) (.seq (.reg r98_4) .ret))))
noncomputable def q98 : List RR := [(.cell (.v 2) true 2)]
theorem k98 : FnOk M 98 2 Tryz.f98 E98 c98 q98 := fnOk Tryz.func98
noncomputable def E99 (n m : Nat) : Cfg := ⟨M, [0, 1, 2, 4], 8, n, m, []⟩
noncomputable def C99 : Cfg := E99 0 0
noncomputable abbrev r99_0 : List RO := [
  ⟨.v 2, .box, [.v 0], none⟩,
  ⟨.v 3, (.newb [(.int .i64 0), (.int .i64 0)]), [], none⟩]
noncomputable abbrev r99_1 : List RO := [
  ⟨.l 5, .fld 8, [.v 2], none⟩,
  ⟨.l 6, .fld 0, [.l 5], none⟩,
  ⟨.l 7, .ld true 2, [.l 6], none⟩,
  ⟨.none, .st 2, [.v 3, .l 7], none⟩]
theorem P99 : C99.M = M := by unfold C99 E99; rfl
theorem i99 {a0 a1 : D} : St.init C99 [a0, a1] ⟨[], []⟩ = ⟨[a0, a1, .u0, .u0], [], ⟨[], []⟩⟩ := by unfold C99 E99; rfl
noncomputable def c99 : RC := (.seq (.reg r99_0) (.seq (.reg r99_1) .ret))
noncomputable def q99 : List RR := [(.cell (.v 3) true 2)]
theorem k99 : FnOk M 99 2 Tryz.f99 E99 c99 q99 := fnOk Tryz.func99
noncomputable def E100 (n m : Nat) : Cfg := ⟨M, [0, 1, 2, 4], 8, n, m, []⟩
noncomputable def C100 : Cfg := E100 0 0
noncomputable abbrev r100_0 : List RO := [
  ⟨.v 2, .box, [.v 0], none⟩,
  ⟨.v 3, (.newb [(.int .i64 0), (.int .i64 0)]), [], none⟩]
noncomputable abbrev r100_1 : List RO := [
  ⟨.l 5, .fld 8, [.v 2], none⟩,
  ⟨.l 6, .fld 2, [.l 5], none⟩,
  ⟨.l 7, .ld true 2, [.l 6], none⟩,
  ⟨.none, .st 2, [.v 3, .l 7], none⟩]
theorem P100 : C100.M = M := by unfold C100 E100; rfl
theorem i100 {a0 a1 : D} : St.init C100 [a0, a1] ⟨[], []⟩ = ⟨[a0, a1, .u0, .u0], [], ⟨[], []⟩⟩ := by unfold C100 E100; rfl
noncomputable def c100 : RC := (.seq (.reg r100_0) (.seq (.reg r100_1) .ret))
noncomputable def q100 : List RR := [(.cell (.v 3) true 2)]
theorem k100 : FnOk M 100 2 Tryz.f100 E100 c100 q100 := fnOk Tryz.func100
noncomputable def E101 (n m : Nat) : Cfg := ⟨M, [0, 1, 2, 4], 8, n, m, []⟩
noncomputable def C101 : Cfg := E101 0 0
noncomputable abbrev r101_0 : List RO := [
  ⟨.v 2, .box, [.v 0], none⟩,
  ⟨.v 3, (.newb [(.int .i64 0), (.int .i64 0)]), [], none⟩]
noncomputable abbrev r101_1 : List RO := [
  ⟨.l 5, .fld 8, [.v 2], none⟩,
  ⟨.l 6, .fld 4, [.l 5], none⟩,
  ⟨.l 7, .ld true 2, [.l 6], none⟩,
  ⟨.none, .st 2, [.v 3, .l 7], none⟩]
theorem P101 : C101.M = M := by unfold C101 E101; rfl
theorem i101 {a0 a1 : D} : St.init C101 [a0, a1] ⟨[], []⟩ = ⟨[a0, a1, .u0, .u0], [], ⟨[], []⟩⟩ := by unfold C101 E101; rfl
noncomputable def c101 : RC := (.seq (.reg r101_0) (.seq (.reg r101_1) .ret))
noncomputable def q101 : List RR := [(.cell (.v 3) true 2)]
theorem k101 : FnOk M 101 2 Tryz.f101 E101 c101 q101 := fnOk Tryz.func101
noncomputable def E102 (n m : Nat) : Cfg := ⟨M, [0, 1, 2, 3, 5], 11, n, m, []⟩
noncomputable abbrev r102_0 : List RO := [
  ⟨.v 3, .box, [.v 0], none⟩,
  ⟨.v 4, (.newb [(.int .i64 0), (.int .i64 0)]), [], none⟩]
noncomputable abbrev r102_1 : List RO := [
  ⟨.l 6, .ld false 1, [.v 2], none⟩,
  ⟨.l 7, .mv, [.v 1], none⟩,
  ⟨.l 8, .fld 5, [.v 3], none⟩,
  ⟨.l 9, .ld false 1, [.l 8], none⟩,
  ⟨.l 10, .call, [.l 6, .l 7, .l 9], none⟩,
  ⟨.none, .st 2, [.v 4, .l 10], none⟩]
theorem pe102 {n m : Nat} : (E102 n m).M = M := by unfold E102; rfl
theorem ie102 {n m : Nat} {hp : Hp} {a0 a1 a2 : D} : St.init (E102 n m) [a0, a1, a2] hp = ⟨[a0, a1, a2, .u0, .u0], [], hp⟩ := by unfold E102; rfl
noncomputable def c102 : RC := (.seq (.reg r102_0) (.seq (.reg r102_1) .ret))
noncomputable def q102 : List RR := [(.cell (.v 4) true 2)]
theorem k102 : FnOk M 102 3 Tryz.f102 E102 c102 q102 := fnOk Tryz.func102
noncomputable def E103 (n m : Nat) : Cfg := ⟨M, [0, 1, 2, 3, 5], 11, n, m, []⟩
noncomputable abbrev r103_0 : List RO := [
  ⟨.v 3, .box, [.v 0], none⟩,
  ⟨.v 4, (.newb [(.int .i64 0), (.int .i64 0)]), [], none⟩]
noncomputable abbrev r103_1 : List RO := [
  ⟨.l 6, .ld false 1, [.v 2], none⟩,
  ⟨.l 7, .mv, [.v 1], none⟩,
  ⟨.l 8, .fld 4, [.v 3], none⟩,
  ⟨.l 9, .ld false 1, [.l 8], none⟩,
  ⟨.l 10, .call, [.l 6, .l 7, .l 9], none⟩,
  ⟨.none, .st 2, [.v 4, .l 10], none⟩]
theorem pe103 {n m : Nat} : (E103 n m).M = M := by unfold E103; rfl
theorem ie103 {n m : Nat} {hp : Hp} {a0 a1 a2 : D} : St.init (E103 n m) [a0, a1, a2] hp = ⟨[a0, a1, a2, .u0, .u0], [], hp⟩ := by unfold E103; rfl
noncomputable def c103 : RC := (.seq (.reg r103_0) (.seq (.reg r103_1) .ret))
noncomputable def q103 : List RR := [(.cell (.v 4) true 2)]
theorem k103 : FnOk M 103 3 Tryz.f103 E103 c103 q103 := fnOk Tryz.func103
noncomputable def E79 (n m : Nat) : Cfg := ⟨M, [0, 1], 6, n, m, []⟩
noncomputable abbrev r79_0 : List RO := [
  ⟨.v 0, .mv, [(.con (.lit (.map none)))], none⟩]
noncomputable abbrev r79_1 : List RO := [
  ⟨.v 1, (.newb [(.lit .nilFunc)]), [], none⟩,
  ⟨.none, .st 1, [.v 1, (.con (.fn (.func 98) [] []))], none⟩]
noncomputable abbrev r79_2 : List RO := [
  ⟨.l 2, .newM, [], none⟩,
  ⟨.none, .mpu .str, [.l 2, (.con (.str [107, 109])), (.con (.fn (.func 99) [] []))], none⟩,
  ⟨.none, .mpu .str, [.l 2, (.con (.str [99, 121, 99, 108, 101, 115])), (.con (.fn (.func 100) [] []))], none⟩,
  ⟨.none, .mpu .str, [.l 2, (.con (.str [100, 97, 109, 97, 103, 101])), (.con (.fn (.func 101) [] []))], none⟩,
  ⟨.l 3, (.mkF (.func 102) 0), [.v 1], none⟩,
  ⟨.none, .mpu .str, [.l 2, (.con (.str [100, 97, 121, 115])), .l 3], none⟩,
  ⟨.l 4, (.mkF (.func 103) 0), [.v 1], none⟩,
  ⟨.none, .mpu .str, [.l 2, (.con (.str [97, 103, 101])), .l 4], none⟩,
  ⟨.l 5, .mv, [.l 2], none⟩,
  ⟨.v 0, .mv, [.l 5], none⟩]
theorem pe79 {n m : Nat} : (E79 n m).M = M := by unfold E79; rfl
theorem ie79 {n m : Nat} {hp : Hp} : St.init (E79 n m) [] hp = ⟨[.u0, .u0], [], hp⟩ := by unfold E79; rfl
noncomputable def c79 : RC := (.seq (.reg r79_0) (.seq (.reg r79_1) (.seq (.reg r79_2) .ret)))
noncomputable def q79 : List RR := [(.slot (.v 0))]
theorem k79 : FnOk M 79 0 Tryz.f79 E79 c79 q79 := fnOk Tryz.func79
noncomputable def E47 (n m : Nat) : Cfg := ⟨M, [0, 1, 2, 3, 6, 7, 8, 9, 16, 20], 32, n, m, []⟩
noncomputable def C47 : Cfg := E47 0 0
noncomputable abbrev r47_0 : List RO := [
  ⟨.v 3, .box, [.v 0], none⟩,
  ⟨.v 4, (.newb [(.int .i64 0), (.int .i64 0)]), [], none⟩,
  ⟨.v 5, .mv, [.con (.int .i64 0)], none⟩]
noncomputable abbrev r47_1 : List RO := [
  ⟨.l 11, .call, [(.con (.fn (.func 79) [] []))], none⟩,
  ⟨.l 12, .mv, [.v 1], none⟩,
  ⟨.l 13, (.lkp .str true (.lit .nilFunc)), [.l 11, .l 12], none⟩,
  ⟨.l 10, .mv, [.l 13], none⟩,
  ⟨.l 14, .ext 0, [.l 10], none⟩,
  ⟨.l 15, .ext 1, [.l 10], none⟩,
  ⟨.v 6, .mv, [.l 14], none⟩,
  ⟨.v 7, .mv, [.l 15], none⟩]
noncomputable abbrev r47_2 : List RO := [
  ⟨.l 17, .mv, [.v 7], none⟩,
  ⟨.l 18, .un .not, [.l 17], none⟩,
  ⟨.v 8, .mv, [.l 18], none⟩]
noncomputable abbrev r47_3 : List RO := [
  ⟨.l 19, (.bld [(.int .i64 0), (.int .i64 0)] []), [], none⟩,
  ⟨.none, .st 2, [.v 4, .l 19], none⟩,
  ⟨.v 5, .mv, [.con (.int .i64 15)], none⟩]
noncomputable abbrev r47_4 : List RO := [
  ⟨.l 21, .mv, [.v 2], none⟩,
  ⟨.l 22, .bin .lss, [.l 21, .con (.int .i64 0)], none⟩,
  ⟨.l 23, .mv, [.l 22], none⟩,
  ⟨.l 24, .mv, [.v 2], (some (.l 23, false))⟩,
  ⟨.l 25, .bin .gtr, [.l 24, .con (.int .i64 40000)], (some (.l 23, false))⟩,
  ⟨.l 26, .pick, [.l 23, .con (.bool true), .l 25], none⟩,
  ⟨.v 9, .mv, [.l 26], none⟩]
noncomputable abbrev r47_5 : List RO := [
  ⟨.l 27, (.bld [(.int .i64 0), (.int .i64 0)] []), [], none⟩,
  ⟨.none, .st 2, [.v 4, .l 27], none⟩,
  ⟨.v 5, .mv, [.con (.int .i64 13)], none⟩]
noncomputable abbrev r47_6 : List RO := [
  ⟨.l 28, .mv, [.v 6], none⟩,
  ⟨.l 29, .ld true 14, [.v 3], none⟩,
  ⟨.l 30, .mv, [.v 2], none⟩,
  ⟨.l 31, .call, [.l 28, .l 29, .l 30], none⟩,
  ⟨.none, .st 2, [.v 4, .l 31], none⟩,
  ⟨.v 5, .mv, [.con (.int .i64 0)], none⟩]
theorem P47 : C47.M = M := by unfold C47 E47; rfl
theorem i47 {a0 a1 a2 : D} : St.init C47 [a0, a1, a2] ⟨[], []⟩ = ⟨[a0, a1, a2, .u0, .u0, .u0, .u0, .u0, .u0, .u0], [], ⟨[], []⟩⟩ := by unfold C47 E47; rfl
noncomputable def c47 : RC := (.seq (.reg r47_0) (.seq (.reg r47_1) (.seq (.block 0 (.seq (.reg r47_2) (.cond (.v 8) (.seq (.reg r47_3) .ret) (.seq (.reg r47_4) (.cond (.v 9) (.seq (.reg r47_5) .ret) .skip))))) (.seq (.reg r47_6) .ret))))
noncomputable def q47 : List RR := [(.cell (.v 4) true 2), (.slot (.v 5))]
theorem k47 : FnOk M 47 3 Tryz.f47 E47 c47 q47 := fnOk Tryz.func47
noncomputable def E81 (n m : Nat) : Cfg := ⟨M, [0, 1, 3, 4, 5, 7, 8, 9, 16], 19, n, m, []⟩
noncomputable def C81 : Cfg := E81 0 0
noncomputable abbrev r81_0 : List RO := [
  ⟨.v 2, .box, [.v 1], none⟩,
  ⟨.v 3, .mv, [.con (.int .i64 0)], none⟩]
noncomputable abbrev r81_1 : List RO := [
  ⟨.l 6, .mv, [.v 0], none⟩,
  ⟨.v 5, .lenL, [.l 6], none⟩,
  ⟨.v 6, .mv, [.con (.int .i64 0)], none⟩]
noncomputable abbrev r81_2 : List RO := [
  ⟨.v 7, .bin .lss, [.v 6, .v 5], none⟩]
noncomputable abbrev r81_3 : List RO := [
  ⟨.l 10, .mv, [.v 6], none⟩,
  ⟨.v 4, .mv, [.l 10], none⟩]
noncomputable abbrev r81_4 : List (RO × Bool) := [
  (⟨.l 11, .ld true 2, [.v 2], none⟩, true),
  (⟨.l 12, .mv, [.v 0], none⟩, true),
  (⟨.l 13, .mv, [.v 4], none⟩, true),
  (⟨.l 14, .ixaS 2, [.l 12, .l 13], none⟩, true),
  (⟨.l 15, .ld true 2, [.l 14], none⟩, true)]
noncomputable abbrev r81_5 : List RO := [
  ⟨.v 8, (.eqA false [.str, .str]), [.l 11, .l 15], none⟩]
noncomputable abbrev r81_6 : List RO := [
  ⟨.l 17, .mv, [.v 4], none⟩,
  ⟨.v 3, .mv, [.l 17], none⟩]
noncomputable abbrev r81_7 : List RO := [
  ⟨.l 18, .bin .add, [.v 6, .con (.int .i64 1)], none⟩,
  ⟨.v 6, .mv, [.l 18], none⟩]
noncomputable abbrev r81_8 : List RO := [
  ⟨.v 3, .mv, [(.con (.int .i64 (-1)))], none⟩]
theorem P81 : C81.M = M := by unfold C81 E81; rfl
theorem i81 {a0 a1 : D} : St.init C81 [a0, a1] ⟨[], []⟩ = ⟨[a0, a1, .u0, .u0, .u0, .u0, .u0, .u0, .u0], [], ⟨[], []⟩⟩ := by unfold C81 E81; rfl
noncomputable def c81 : RC := (.seq (.reg r81_0) (.seq (.seq (.reg r81_1) (.block 0 (.loop (.seq (.reg r81_2) (.seq (.cond (.v 7) .skip (.exit 0)) (.seq (.block 1 (.seq (.reg r81_3) (.seq (.regD r81_4 r81_5) (.cond (.v 8) (.seq (.reg r81_6) .ret) .skip)))) (.reg r81_7))))))) (.seq (.reg r81_8) .ret)))
noncomputable def q81 : List RR := [(.slot (.v 3))]
theorem k81 : FnOk M 81 2 Tryz.f81 E81 c81 q81 := fnOk Tryz.func81
noncomputable def E50 (n m : Nat) : Cfg := ⟨M, [0, 1, 3, 4], 9, n, m, []⟩
noncomputable def C50 : Cfg := E50 0 0
noncomputable abbrev r50_0 : List RO := [
  ⟨.v 2, .box, [.v 1], none⟩,
  ⟨.v 3, .mv, [.con (.bool false)], none⟩]
noncomputable abbrev r50_1 : List RO := [
  ⟨.l 5, .mv, [.v 0], none⟩,
  ⟨.l 6, .ld true 2, [.v 2], none⟩,
  ⟨.l 7, .call, [(.con (.fn (.func 81) [] [])), .l 5, .l 6], none⟩,
  ⟨.l 8, .bin .geq, [.l 7, .con (.int .i64 0)], none⟩,
  ⟨.v 3, .mv, [.l 8], none⟩]
theorem P50 : C50.M = M := by unfold C50 E50; rfl
theorem i50 {a0 a1 : D} : St.init C50 [a0, a1] ⟨[], []⟩ = ⟨[a0, a1, .u0, .u0], [], ⟨[], []⟩⟩ := by unfold C50 E50; rfl
noncomputable def c50 : RC := (.seq (.reg r50_0) (.seq (.reg r50_1) .ret))
noncomputable def q50 : List RR := [(.slot (.v 3))]
theorem k50 : FnOk M 50 2 Tryz.f50 E50 c50 q50 := fnOk Tryz.func50
noncomputable def E82 (n m : Nat) : Cfg := ⟨M, [0, 1, 4, 5, 7, 8, 9, 16], 19, n, m, []⟩
noncomputable abbrev r82_0 : List RO := [
  ⟨.v 2, .mv, [.con (.int .i64 0)], none⟩]
noncomputable abbrev r82_1 : List RO := [
  ⟨.l 6, .mv, [.v 0], none⟩,
  ⟨.v 4, .lenL, [.l 6], none⟩,
  ⟨.v 5, .mv, [.con (.int .i64 0)], none⟩]
noncomputable abbrev r82_2 : List RO := [
  ⟨.v 6, .bin .lss, [.v 5, .v 4], none⟩]
noncomputable abbrev r82_3 : List RO := [
  ⟨.l 10, .mv, [.v 5], none⟩,
  ⟨.v 3, .mv, [.l 10], none⟩]
noncomputable abbrev r82_4 : List RO := [
  ⟨.l 11, .mv, [.v 1], none⟩,
  ⟨.l 12, .mv, [.v 0], none⟩,
  ⟨.l 13, .mv, [.v 3], none⟩,
  ⟨.l 14, .ixaS 2, [.l 12, .l 13], none⟩,
  ⟨.l 15, .ld true 2, [.l 14], none⟩,
  ⟨.v 7, .call, [.l 11, .l 15], none⟩]
noncomputable abbrev r82_5 : List RO := [
  ⟨.l 17, .mv, [.v 3], none⟩,
  ⟨.v 2, .mv, [.l 17], none⟩]
noncomputable abbrev r82_6 : List RO := [
  ⟨.l 18, .bin .add, [.v 5, .con (.int .i64 1)], none⟩,
  ⟨.v 5, .mv, [.l 18], none⟩]
noncomputable abbrev r82_7 : List RO := [
  ⟨.v 2, .mv, [(.con (.int .i64 (-1)))], none⟩]
theorem pe82 {n m : Nat} : (E82 n m).M = M := by unfold E82; rfl
theorem ie82 {n m : Nat} {hp : Hp} {a0 a1 : D} : St.init (E82 n m) [a0, a1] hp = ⟨[a0, a1, .u0, .u0, .u0, .u0, .u0, .u0], [], hp⟩ := by unfold E82; rfl
noncomputable def c82 : RC := (.seq (.reg r82_0) (.seq (.seq (.reg r82_1) (.block 0 (.loop (.seq (.reg r82_2) (.seq (.cond (.v 6) .skip (.exit 0)) (.seq (.block 1 (.seq (.reg r82_3) (.seq (.reg r82_4) (.cond (.v 7) (.seq (.reg r82_5) .ret) .skip)))) (.reg r82_6))))))) (.seq (.reg r82_7) .ret)))
noncomputable def q82 : List RR := [(.slot (.v 2))]
theorem k82 : FnOk M 82 2 Tryz.f82 E82 c82 q82 := fnOk Tryz.func82
noncomputable def E51 (n m : Nat) : Cfg := ⟨M, [0, 1, 4], 9, n, m, []⟩
noncomputable abbrev r51_0 : List RO := [
  ⟨.v 2, .mv, [.con (.bool false)], none⟩]
noncomputable abbrev r51_1 : List RO := [
  ⟨.l 5, .mv, [.v 0], none⟩,
  ⟨.l 6, .mv, [.v 1], none⟩,
  ⟨.l 7, .call, [(.con (.fn (.func 82) [] [])), .l 5, .l 6], none⟩,
  ⟨.l 8, .bin .geq, [.l 7, .con (.int .i64 0)], none⟩,
  ⟨.v 2, .mv, [.l 8], none⟩]
theorem pe51 {n m : Nat} : (E51 n m).M = M := by unfold E51; rfl
theorem ie51 {n m : Nat} {hp : Hp} {a0 a1 : D} : St.init (E51 n m) [a0, a1] hp = ⟨[a0, a1, .u0], [], hp⟩ := by unfold E51; rfl
noncomputable def c51 : RC := (.seq (.reg r51_0) (.seq (.reg r51_1) .ret))
noncomputable def q51 : List RR := [(.slot (.v 2))]
theorem k51 : FnOk M 51 2 Tryz.f51 E51 c51 q51 := fnOk Tryz.func51
noncomputable def E52 (n m : Nat) : Cfg := ⟨M, [0, 1, 2, 3], 9, n, m, []⟩
noncomputable abbrev r52_0 : List RO := [
  ⟨.v 2, .box, [.v 0], none⟩,
  ⟨.v 3, .mv, [.con (.bool false)], none⟩]
noncomputable abbrev r52_1 : List RO := [
  ⟨.l 4, .fld 0, [.v 2], none⟩,
  ⟨.l 5, .ld false 1, [.l 4], none⟩,
  ⟨.l 6, .fld 1, [.v 1], none⟩,
  ⟨.l 7, .ld false 1, [.l 6], none⟩,
  ⟨.l 8, .bin .eql, [.l 5, .l 7], none⟩,
  ⟨.v 3, .mv, [.l 8], none⟩]
theorem pe52 {n m : Nat} : (E52 n m).M = M := by unfold E52; rfl
theorem ie52 {n m : Nat} {hp : Hp} {a0 a1 : D} : St.init (E52 n m) [a0, a1] hp = ⟨[a0, a1, .u0, .u0], [], hp⟩ := by unfold E52; rfl
noncomputable def c52 : RC := (.seq (.reg r52_0) (.seq (.reg r52_1) .ret))
noncomputable def q52 : List RR := [(.slot (.v 3))]
theorem k52 : FnOk M 52 2 Tryz.f52 E52 c52 q52 := fnOk Tryz.func52
noncomputable def E83 (n m : Nat) : Cfg := ⟨M, [0, 1, 4, 5, 7, 8, 9, 16], 19, n, m, []⟩
noncomputable abbrev r83_0 : List RO := [
  ⟨.v 2, .mv, [.con (.int .i64 0)], none⟩]
noncomputable abbrev r83_1 : List RO := [
  ⟨.l 6, .mv, [.v 0], none⟩,
  ⟨.v 4, .lenL, [.l 6], none⟩,
  ⟨.v 5, .mv, [.con (.int .i64 0)], none⟩]
noncomputable abbrev r83_2 : List RO := [
  ⟨.v 6, .bin .lss, [.v 5, .v 4], none⟩]
noncomputable abbrev r83_3 : List RO := [
  ⟨.l 10, .mv, [.v 5], none⟩,
  ⟨.v 3, .mv, [.l 10], none⟩]
noncomputable abbrev r83_4 : List RO := [
  ⟨.l 11, .mv, [.v 1], none⟩,
  ⟨.l 12, .mv, [.v 0], none⟩,
  ⟨.l 13, .mv, [.v 3], none⟩,
  ⟨.l 14, .ixaS 14, [.l 12, .l 13], none⟩,
  ⟨.l 15, .ld true 14, [.l 14], none⟩,
  ⟨.v 7, .call, [.l 11, .l 15], none⟩]
noncomputable abbrev r83_5 : List RO := [
  ⟨.l 17, .mv, [.v 3], none⟩,
  ⟨.v 2, .mv, [.l 17], none⟩]
noncomputable abbrev r83_6 : List RO := [
  ⟨.l 18, .bin .add, [.v 5, .con (.int .i64 1)], none⟩,
  ⟨.v 5, .mv, [.l 18], none⟩]
noncomputable abbrev r83_7 : List RO := [
  ⟨.v 2, .mv, [(.con (.int .i64 (-1)))], none⟩]
theorem pe83 {n m : Nat} : (E83 n m).M = M := by unfold E83; rfl
theorem ie83 {n m : Nat} {hp : Hp} {a0 a1 : D} : St.init (E83 n m) [a0, a1] hp = ⟨[a0, a1, .u0, .u0, .u0, .u0, .u0, .u0], [], hp⟩ := by unfold E83; rfl
noncomputable def c83 : RC := (.seq (.reg r83_0) (.seq (.seq (.reg r83_1) (.block 0 (.loop (.seq (.reg r83_2) (.seq (.cond (.v 6) .skip (.exit 0)) (.seq (.block 1 (.seq (.reg r83_3) (.seq (.reg r83_4) (.cond (.v 7) (.seq (.reg r83_5) .ret) .skip)))) (.reg r83_6))))))) (.seq (.reg r83_7) .ret)))
noncomputable def q83 : List RR := [(.slot (.v 2))]
theorem k83 : FnOk M 83 2 Tryz.f83 E83 c83 q83 := fnOk Tryz.func83
noncomputable def E53 (n m : Nat) : Cfg := ⟨M, [0, 1, 4], 9, n, m, []⟩
noncomputable abbrev r53_0 : List RO := [
  ⟨.v 2, .mv, [.con (.bool false)], none⟩]
noncomputable abbrev r53_1 : List RO := [
  ⟨.l 5, .mv, [.v 0], none⟩,
  ⟨.l 6, .mv, [.v 1], none⟩,
  ⟨.l 7, .call, [(.con (.fn (.func 83) [] [])), .l 5, .l 6], none⟩,
  ⟨.l 8, .bin .geq, [.l 7, .con (.int .i64 0)], none⟩,
  ⟨.v 2, .mv, [.l 8], none⟩]
theorem pe53 {n m : Nat} : (E53 n m).M = M := by unfold E53; rfl
theorem ie53 {n m : Nat} {hp : Hp} {a0 a1 : D} : St.init (E53 n m) [a0, a1] hp = ⟨[a0, a1, .u0], [], hp⟩ := by unfold E53; rfl
noncomputable def c53 : RC := (.seq (.reg r53_0) (.seq (.reg r53_1) .ret))
noncomputable def q53 : List RR := [(.slot (.v 2))]
theorem k53 : FnOk M 53 2 Tryz.f53 E53 c53 q53 := fnOk Tryz.func53
noncomputable def E54 (n m : Nat) : Cfg := ⟨M, [0, 1, 2, 3, 4], 23, n, m, []⟩
noncomputable abbrev r54_0 : List RO := [
  ⟨.v 3, .box, [.v 0], none⟩,
  ⟨.v 4, .mv, [.con (.bool false)], none⟩]
noncomputable abbrev r54_1 : List RO := [
  ⟨.l 5, .fld 2, [.v 3], none⟩,
  ⟨.l 6, .ld false 1, [.l 5], none⟩,
  ⟨.l 7, .ld false 1, [.v 1], none⟩,
  ⟨.l 8, .bin .eql, [.l 6, .l 7], none⟩,
  ⟨.l 9, .mv, [.l 8], none⟩,
  ⟨.l 10, .fld 3, [.v 3], (some (.l 9, true))⟩,
  ⟨.l 11, .ld false 1, [.l 10], (some (.l 9, true))⟩,
  ⟨.l 12, .fld 1, [.v 2], (some (.l 9, true))⟩,
  ⟨.l 13, .ld false 1, [.l 12], (some (.l 9, true))⟩,
  ⟨.l 14, .bin .eql, [.l 11, .l 13], (some (.l 9, true))⟩,
  ⟨.l 15, .pick, [.l 9, .l 14, .con (.bool false)], none⟩,
  ⟨.l 16, .mv, [.l 15], none⟩,
  ⟨.l 17, .fld 1, [.v 3], (some (.l 16, true))⟩,
  ⟨.l 18, .ld false 1, [.l 17], (some (.l 16, true))⟩,
  ⟨.l 19, .fld 2, [.v 2], (some (.l 16, true))⟩,
  ⟨.l 20, .ld false 1, [.l 19], (some (.l 16, true))⟩,
  ⟨.l 21, .bin .eql, [.l 18, .l 20], (some (.l 16, true))⟩,
  ⟨.l 22, .pick, [.l 16, .l 21, .con (.bool false)], none⟩,
  ⟨.v 4, .mv, [.l 22], none⟩]
theorem pe54 {n m : Nat} : (E54 n m).M = M := by unfold E54; rfl
theorem ie54 {n m : Nat} {hp : Hp} {a0 a1 a2 : D} : St.init (E54 n m) [a0, a1, a2] hp = ⟨[a0, a1, a2, .u0, .u0], [], hp⟩ := by unfold E54; rfl
noncomputable def c54 : RC := (.seq (.reg r54_0) (.seq (.reg r54_1) .ret))
noncomputable def q54 : List RR := [(.slot (.v 4))]
theorem k54 : FnOk M 54 3 Tryz.f54 E54 c54 q54 := fnOk Tryz.func54
noncomputable def E42 (n m : Nat) : Cfg := ⟨M, [0, 1, 2, 3, 8, 9, 10, 11, 12], 22, n, m, []⟩
noncomputable abbrev r42_0 : List RO := [
  ⟨.v 4, .mv, [.con (.int .i64 0)], none⟩]
noncomputable abbrev r42_1 : List RO := [
  ⟨.v 6, .mv, [.v 2], none⟩,
  ⟨.v 7, .mv, [.con (.int .i64 0)], none⟩]
noncomputable abbrev r42_2 : List RO := [
  ⟨.v 8, .bin .lss, [.v 7, .v 6], none⟩]
noncomputable abbrev r42_3 : List RO := [
  ⟨.l 13, .mv, [.v 7], none⟩,
  ⟨.v 5, .mv, [.l 13], none⟩]
noncomputable abbrev r42_4 : List RO := [
  ⟨.l 14, .mv, [.v 0], none⟩,
  ⟨.l 15, .mv, [.v 1], none⟩,
  ⟨.l 16, .mv, [.v 3], none⟩,
  ⟨.l 17, .mv, [.v 5], none⟩,
  ⟨.l 18, .call, [.l 16, .l 17], none⟩,
  ⟨.l 19, .call, [.l 14, .l 15, .l 18], none⟩,
  ⟨.v 1, .mv, [.l 19], none⟩]
noncomputable abbrev r42_5 : List RO := [
  ⟨.l 20, .bin .add, [.v 7, .con (.int .i64 1)], none⟩,
  ⟨.v 7, .mv, [.l 20], none⟩]
noncomputable abbrev r42_6 : List RO := [
  ⟨.l 21, .mv, [.v 1], none⟩,
  ⟨.v 4, .mv, [.l 21], none⟩]
theorem pe42 {n m : Nat} : (E42 n m).M = M := by unfold E42; rfl
theorem ie42 {n m : Nat} {hp : Hp} {a0 a1 a2 a3 : D} : St.init (E42 n m) [a0, a1, a2, a3] hp = ⟨[a0, a1, a2, a3, .u0, .u0, .u0, .u0, .u0], [], hp⟩ := by unfold E42; rfl
noncomputable def c42 : RC := (.seq (.reg r42_0) (.seq (.seq (.reg r42_1) (.block 0 (.loop (.seq (.reg r42_2) (.seq (.cond (.v 8) .skip (.exit 0)) (.seq (.block 1 (.seq (.reg r42_3) (.reg r42_4))) (.reg r42_5))))))) (.seq (.reg r42_6) .ret)))
noncomputable def q42 : List RR := [(.slot (.v 4))]
theorem k42 : FnOk M 42 4 Tryz.f42 E42 c42 q42 := fnOk Tryz.func42
noncomputable def E43 (n m : Nat) : Cfg := ⟨M, [0, 1, 2, 3, 5], 14, n, m, []⟩
noncomputable abbrev r43_0 : List RO := [
  ⟨.v 4, .mv, [.con (.int .i64 0)], none⟩]
noncomputable abbrev r43_1 : List (RO × Bool) := [
  (⟨.l 6, .ld true 2, [.v 1], none⟩, true),
  (⟨.l 7, .fld 5, [.v 2], none⟩, true),
  (⟨.l 8, .ld false 1, [.l 7], none⟩, true),
  (⟨.l 9, .mv, [.v 0], none⟩, true),
  (⟨.l 10, .ixaS 6, [.l 8, .l 9], none⟩, true),
  (⟨.l 11, .ld true 6, [.l 10], none⟩, true),
  (⟨.l 12, .ld false 1, [.v 3], none⟩, true)]
noncomputable abbrev r43_2 : List RO := [
  ⟨.l 13, .call, [(.con (.fn (.func 25) [] [])), .l 6, .l 11, .l 12], none⟩,
  ⟨.v 4, .mv, [.l 13], none⟩]
theorem pe43 {n m : Nat} : (E43 n m).M = M := by unfold E43; rfl
theorem ie43 {n m : Nat} {hp : Hp} {a0 a1 a2 a3 : D} : St.init (E43 n m) [a0, a1, a2, a3] hp = ⟨[a0, a1, a2, a3, .u0], [], hp⟩ := by unfold E43; rfl
noncomputable def c43 : RC := (.seq (.reg r43_0) (.seq (.regD r43_1 r43_2) .ret))
noncomputable def q43 : List RR := [(.slot (.v 4))]
theorem k43 : FnOk M 43 4 Tryz.f43 E43 c43 q43 := fnOk Tryz.func43
noncomputable def E56 (n m : Nat) : Cfg := ⟨M, [0, 1, 2, 3, 5], 16, n, m, []⟩
noncomputable abbrev r56_0 : List RO := [
  ⟨.v 4, .mv, [.con (.int .i64 0)], none⟩]
noncomputable abbrev r56_1 : List (RO × Bool) := [
  (⟨.l 6, .ld true 2, [.v 1], none⟩, true),
  (⟨.l 7, .fld 5, [.v 2], none⟩, true),
  (⟨.l 8, .ld false 1, [.l 7], none⟩, true),
  (⟨.l 9, .ixaS 6, [.l 8, .con (.int .i64 0)], none⟩, true),
  (⟨.l 10, .ld true 6, [.l 9], none⟩, true),
  (⟨.l 11, .ld false 1, [.v 3], none⟩, true),
  (⟨.l 12, .mv, [.v 0], none⟩, true),
  (⟨.l 13, .ixaS 1, [.l 11, .l 12], none⟩, true),
  (⟨.l 14, .ld false 1, [.l 13], none⟩, true)]
noncomputable abbrev r56_2 : List RO := [
  ⟨.l 15, .call, [(.con (.fn (.func 25) [] [])), .l 6, .l 10, .l 14], none⟩,
  ⟨.v 4, .mv, [.l 15], none⟩]
theorem pe56 {n m : Nat} : (E56 n m).M = M := by unfold E56; rfl
theorem ie56 {n m : Nat} {hp : Hp} {a0 a1 a2 a3 : D} : St.init (E56 n m) [a0, a1, a2, a3] hp = ⟨[a0, a1, a2, a3, .u0], [], hp⟩ := by unfold E56; rfl
noncomputable def c56 : RC := (.seq (.reg r56_0) (.seq (.regD r56_1 r56_2) .ret))
noncomputable def q56 : List RR := [(.slot (.v 4))]
theorem k56 : FnOk M 56 4 Tryz.f56 E56 c56 q56 := fnOk Tryz.func56
noncomputable def E25 (n m : Nat) : Cfg := ⟨M, [0, 1, 2, 3, 4, 5, 6, 7, 9, 10, 11, 12, 13, 14, 15, 16, 17, 29, 30, 32, 34, 36, 38, 40, 42, 44, 46, 77, 83, 116, 117, 124], 137, n, m, []⟩
noncomputable def C25 : Cfg := E25 0 0
noncomputable abbrev r25_0 : List RO := [
  ⟨.v 3, .box, [.v 0], none⟩,
  ⟨.v 4, .box, [.v 1], none⟩,
  ⟨.v 5, .box, [.v 2], none⟩,
  ⟨.v 6, .mv, [.con (.int .i64 0)], none⟩]
noncomputable abbrev r25_1 : List RO := [
  ⟨.l 19, .fld 0, [.v 3], none⟩,
  ⟨.l 20, .ld true 1, [.l 19], none⟩,
  ⟨.l 21, .ld false 1, [.v 5], none⟩,
  ⟨.l 22, .call, [(.con (.fn (.func 41) [] [])), .l 20, .l 21], none⟩,
  ⟨.l 18, .mv, [.l 22], none⟩,
  ⟨.l 23, .ext 0, [.l 18], none⟩,
  ⟨.l 24, .ext 1, [.l 18], none⟩,
  ⟨.v 7, (.newb [(.str []), (.str []), (.str []), (.str []), (.int .i64 0), (.int .i64 0), (.bool false), (.lit (.slice none 0 0)), (.int .i64 0), (.int .i64 0), (.int .i64 0), (.int .i64 0), (.int .i64 0), (.int .i64 0)]), [], none⟩,
  ⟨.none, .st 14, [.v 7, .l 23], none⟩,
  ⟨.l 8, .mv, [.l 24], none⟩]
noncomputable abbrev r25_2 : List RO := [
  ⟨.v 8, .mv, [(.con (.fn (.func 42) [] []))], none⟩]
noncomputable abbrev r25_3 : List RO := [
  ⟨.l 25, (.mkF (.func 43) 0), [.v 3, .v 4, .v 5], none⟩,
  ⟨.v 9, .mv, [.l 25], none⟩]
noncomputable abbrev r25_4 : List RO := [
  ⟨.l 26, .fld 3, [.v 4], none⟩,
  ⟨.l 27, .ld false 1, [.l 26], none⟩,
  ⟨.v 10, .mv, [.l 27], none⟩]
noncomputable abbrev r25_5 : List RO := [
  ⟨.l 28, .fld 0, [.v 4], none⟩,
  ⟨.v 17, .ld false 1, [.l 28], none⟩]
noncomputable abbrev r25_6 : List RO := [
  ⟨.l 31, .bin .eql, [.v 17, .con (.int .i64 1)], none⟩,
  ⟨.v 18, .mv, [.l 31], none⟩]
noncomputable abbrev r25_7 : List RO := [
  ⟨.l 33, .bin .eql, [.v 17, .con (.int .i64 2)], none⟩,
  ⟨.v 19, .mv, [.l 33], none⟩]
noncomputable abbrev r25_8 : List RO := [
  ⟨.l 35, .bin .eql, [.v 17, .con (.int .i64 3)], none⟩,
  ⟨.v 20, .mv, [.l 35], none⟩]
noncomputable abbrev r25_9 : List RO := [
  ⟨.l 37, .bin .eql, [.v 17, .con (.int .i64 4)], none⟩,
  ⟨.v 21, .mv, [.l 37], none⟩]
noncomputable abbrev r25_10 : List RO := [
  ⟨.l 39, .bin .eql, [.v 17, .con (.int .i64 5)], none⟩,
  ⟨.v 22, .mv, [.l 39], none⟩]
noncomputable abbrev r25_11 : List RO := [
  ⟨.l 41, .bin .eql, [.v 17, .con (.int .i64 6)], none⟩,
  ⟨.v 23, .mv, [.l 41], none⟩]
noncomputable abbrev r25_12 : List RO := [
  ⟨.l 43, .bin .eql, [.v 17, .con (.int .i64 7)], none⟩,
  ⟨.v 24, .mv, [.l 43], none⟩]
noncomputable abbrev r25_13 : List RO := [
  ⟨.l 45, .bin .eql, [.v 17, .con (.int .i64 8)], none⟩,
  ⟨.v 25, .mv, [.l 45], none⟩]
noncomputable abbrev r25_14 : List RO := [
  ⟨.l 47, .bin .eql, [.v 17, .con (.int .i64 9)], none⟩,
  ⟨.v 26, .mv, [.l 47], none⟩]
noncomputable abbrev r25_15 : List RO := [
  ⟨.v 6, .mv, [.con (.int .i64 2)], none⟩]
noncomputable abbrev r25_16 : List RO := [
  ⟨.l 48, .mv, [.v 9], none⟩,
  ⟨.l 49, .call, [.l 48, .con (.int .i64 0)], none⟩,
  ⟨.l 50, .call, [(.con (.fn (.func 44) [] [])), .l 49], none⟩,
  ⟨.v 6, .mv, [.l 50], none⟩]
noncomputable abbrev r25_17 : List RO := [
  ⟨.l 51, .mv, [.v 8], none⟩,
  ⟨.l 52, .fld 5, [.v 4], none⟩,
  ⟨.l 53, .ld false 1, [.l 52], none⟩,
  ⟨.l 54, .lenL, [.l 53], none⟩,
  ⟨.l 55, .mv, [.v 9], none⟩,
  ⟨.l 56, .call, [.l 51, (.con (.fn (.func 45) [] [])), .con (.int .i64 2), .l 54, .l 55], none⟩,
  ⟨.v 6, .mv, [.l 56], none⟩]
noncomputable abbrev r25_18 : List RO := [
  ⟨.l 57, .mv, [.v 8], none⟩,
  ⟨.l 58, .fld 5, [.v 4], none⟩,
  ⟨.l 59, .ld false 1, [.l 58], none⟩,
  ⟨.l 60, .lenL, [.l 59], none⟩,
  ⟨.l 61, .mv, [.v 9], none⟩,
  ⟨.l 62, .call, [.l 57, (.con (.fn (.func 46) [] [])), .con (.int .i64 0), .l 60, .l 61], none⟩,
  ⟨.v 6, .mv, [.l 62], none⟩]
noncomputable abbrev r25_19 : List RO := [
  ⟨.l 63, .mv, [.v 10], none⟩,
  ⟨.l 64, .fld 4, [.v 4], none⟩,
  ⟨.l 65, .ld false 1, [.l 64], none⟩,
  ⟨.l 66, .bin .add, [.l 63, .l 65], none⟩,
  ⟨.v 10, .mv, [.l 66], none⟩]
noncomputable abbrev r25_20 : List RO := [
  ⟨.l 68, .ld true 14, [.v 7], none⟩,
  ⟨.l 69, .fld 1, [.v 4], none⟩,
  ⟨.l 70, .ld false 1, [.l 69], none⟩,
  ⟨.l 71, .fld 1, [.v 3], none⟩,
  ⟨.l 72, .ld false 1, [.l 71], none⟩,
  ⟨.l 73, .call, [(.con (.fn (.func 47) [] [])), .l 68, .l 70, .l 72], none⟩,
  ⟨.l 67, .mv, [.l 73], none⟩,
  ⟨.l 74, .ext 0, [.l 67], none⟩,
  ⟨.l 75, .ext 1, [.l 67], none⟩,
  ⟨.v 11, (.newb [(.int .i64 0), (.int .i64 0)]), [], none⟩,
  ⟨.none, .st 2, [.v 11, .l 74], none⟩,
  ⟨.v 12, .mv, [.l 75], none⟩]
noncomputable abbrev r25_21 : List RO := [
  ⟨.l 76, .mv, [.v 12], none⟩,
  ⟨.v 27, .bin .neq, [.l 76, .con (.int .i64 0)], none⟩]
noncomputable abbrev r25_22 : List RO := [
  ⟨.v 6, .mv, [.con (.int .i64 0)], none⟩]
noncomputable abbrev r25_23 : List RO := [
  ⟨.l 78, .ld true 2, [.v 11], none⟩,
  ⟨.l 79, .mv, [.v 10], none⟩,
  ⟨.l 80, .call, [(.con (.fn (.func 48) [] [])), .l 78, .l 79], none⟩,
  ⟨.v 13, .mv, [.l 80], none⟩]
noncomputable abbrev r25_24 : List RO := [
  ⟨.l 81, .fld 0, [.v 4], none⟩,
  ⟨.l 82, .ld false 1, [.l 81], none⟩,
  ⟨.v 28, .bin .eql, [.l 82, .con (.int .i64 6)], none⟩]
noncomputable abbrev r25_25 : List RO := [
  ⟨.l 84, .mv, [.v 13], none⟩,
  ⟨.v 6, .mv, [.l 84], none⟩]
noncomputable abbrev r25_26 : List RO := [
  ⟨.l 85, .mv, [.v 13], none⟩,
  ⟨.l 86, .call, [(.con (.fn (.func 44) [] [])), .l 85], none⟩,
  ⟨.v 6, .mv, [.l 86], none⟩]
noncomputable abbrev r25_27 : List RO := [
  ⟨.l 87, .fld 7, [.v 7], none⟩,
  ⟨.l 88, .ld false 1, [.l 87], none⟩,
  ⟨.l 89, .fld 1, [.v 4], none⟩,
  ⟨.l 90, .ld false 1, [.l 89], none⟩,
  ⟨.l 91, .fld 2, [.v 4], none⟩,
  ⟨.l 92, .ld false 1, [.l 91], none⟩,
  ⟨.l 93, (.bld [(.str []), (.str [])] [(0, 1), (1, 1)]), [.l 90, .l 92], none⟩,
  ⟨.l 94, .call, [(.con (.fn (.func 50) [] [])), .l 88, .l 93], none⟩,
  ⟨.l 95, .call, [(.con (.fn (.func 49) [] [])), .l 94], none⟩,
  ⟨.v 6, .mv, [.l 95], none⟩]
noncomputable abbrev r25_28 : List RO := [
  ⟨.l 96, .fld 7, [.v 7], none⟩,
  ⟨.l 97, .ld false 1, [.l 96], none⟩,
  ⟨.l 98, (.mkF (.func 52) 0), [.v 4], none⟩,
  ⟨.l 99, .call, [(.con (.fn (.func 51) [] [])), .l 97, .l 98], none⟩,
  ⟨.l 100, .call, [(.con (.fn (.func 49) [] [])), .l 99], none⟩,
  ⟨.v 6, .mv, [.l 100], none⟩]
noncomputable abbrev r25_29 : List RO := [
  ⟨.l 101, .fld 0, [.v 3], none⟩,
  ⟨.l 102, .fld 0, [.l 101], none⟩,
  ⟨.l 103, .ld false 1, [.l 102], none⟩,
  ⟨.l 104, (.mkF (.func 54) 0), [.v 5, .v 4], none⟩,
  ⟨.l 105, .call, [(.con (.fn (.func 53) [] [])), .l 103, .l 104], none⟩,
  ⟨.l 106, .call, [(.con (.fn (.func 49) [] [])), .l 105], none⟩,
  ⟨.v 6, .mv, [.l 106], none⟩]
noncomputable abbrev r25_30 : List RO := [
  ⟨.l 107, .ld true 2, [.v 3], none⟩,
  ⟨.l 108, (.mkF (.func 55) 1), [.l 107], none⟩,
  ⟨.v 14, .mv, [.l 108], none⟩]
noncomputable abbrev r25_31 : List RO := [
  ⟨.l 109, .mv, [.v 14], none⟩,
  ⟨.l 110, .ld false 1, [.v 5], none⟩,
  ⟨.l 111, .fld 1, [.v 4], none⟩,
  ⟨.l 112, .ld false 1, [.l 111], none⟩,
  ⟨.l 113, .call, [.l 109, .l 110, .l 112], none⟩,
  ⟨.v 15, (.newb [(.lit (.slice none 0 0))]), [], none⟩,
  ⟨.none, .st 1, [.v 15, .l 113], none⟩]
noncomputable abbrev r25_32 : List RO := [
  ⟨.l 114, (.mkF (.func 56) 0), [.v 3, .v 4, .v 15], none⟩,
  ⟨.v 16, .mv, [.l 114], none⟩]
noncomputable abbrev r25_33 : List RO := [
  ⟨.l 115, .fld 0, [.v 4], none⟩,
  ⟨.v 29, .ld false 1, [.l 115], none⟩]
noncomputable abbrev r25_34 : List RO := [
  ⟨.l 118, .bin .eql, [.v 29, .con (.int .i64 10)], none⟩,
  ⟨.v 30, .mv, [.l 118], none⟩]
noncomputable abbrev r25_35 : List RO := [
  ⟨.l 119, .mv, [.v 8], none⟩,
  ⟨.l 120, .ld false 1, [.v 15], none⟩,
  ⟨.l 121, .lenL, [.l 120], none⟩,
  ⟨.l 122, .mv, [.v 16], none⟩,
  ⟨.l 123, .call, [.l 119, (.con (.fn (.func 45) [] [])), .con (.int .i64 2), .l 121, .l 122], none⟩,
  ⟨.v 6, .mv, [.l 123], none⟩]
noncomputable abbrev r25_36 : List RO := [
  ⟨.l 125, .bin .eql, [.v 29, .con (.int .i64 11)], none⟩,
  ⟨.v 31, .mv, [.l 125], none⟩]
noncomputable abbrev r25_37 : List RO := [
  ⟨.l 126, .mv, [.v 8], none⟩,
  ⟨.l 127, .ld false 1, [.v 15], none⟩,
  ⟨.l 128, .lenL, [.l 127], none⟩,
  ⟨.l 129, .mv, [.v 16], none⟩,
  ⟨.l 130, .call, [.l 126, (.con (.fn (.func 46) [] [])), .con (.int .i64 0), .l 128, .l 129], none⟩,
  ⟨.v 6, .mv, [.l 130], none⟩]
noncomputable abbrev r25_38 : List RO := [
  ⟨.l 131, .ld false 1, [.v 15], none⟩,
  ⟨.l 132, .lenL, [.l 131], none⟩,
  ⟨.l 133, .fld 3, [.v 4], none⟩,
  ⟨.l 134, .ld false 1, [.l 133], none⟩,
  ⟨.l 135, .bin .geq, [.l 132, .l 134], none⟩,
  ⟨.l 136, .call, [(.con (.fn (.func 49) [] [])), .l 135], none⟩,
  ⟨.v 6, .mv, [.l 136], none⟩]
theorem P25 : C25.M = M := by unfold C25 E25; rfl
theorem i25 {a0 a1 a2 : D} : St.init C25 [a0, a1, a2] ⟨[], []⟩ = ⟨[a0, a1, a2, .u0, .u0, .u0, .u0, .u0, .u0, .u0, .u0, .u0, .u0, .u0, .u0, .u0, .u0, .u0, .u0, .u0, .u0, .u0, .u0, .u0, .u0, .u0, .u0, .u0, .u0, .u0, .u0, .u0], [], ⟨[], []⟩⟩ := by unfold C25 E25; rfl
noncomputable def c25 : RC := (.seq (.reg r25_0) (.seq (.reg r25_1) (.seq (.reg r25_2) (.seq (.reg r25_3) (.seq (.reg r25_4) (.seq (.seq (.reg r25_5) (.block 0 (.seq (.block 9 (.seq (.block 8 (.seq (.block 7 (.seq (.block 6 (.seq (.block 5 (.seq (.block 4 (.seq (.block 3 (.seq (.block 2 (.seq (.block 1 (.seq (.seq (.seq (.reg r25_6) (.cond (.v 18) (.exit 1) .skip)) (.seq (.seq (.reg r25_7) (.cond (.v 19) (.exit 2) .skip)) (.seq (.seq (.reg r25_8) (.cond (.v 20) (.exit 3) .skip)) (.seq (.seq (.reg r25_9) (.cond (.v 21) (.exit 4) .skip)) (.seq (.seq (.reg r25_10) (.cond (.v 22) (.exit 5) .skip)) (.seq (.seq (.reg r25_11) (.cond (.v 23) (.exit 6) .skip)) (.seq (.seq (.reg r25_12) (.cond (.v 24) (.exit 7) .skip)) (.seq (.seq (.reg r25_13) (.cond (.v 25) (.exit 8) .skip)) (.seq (.reg r25_14) (.cond (.v 26) (.exit 9) .skip)))))))))) (.exit 0))) (.seq (.seq (.reg r25_15) .ret) (.exit 0)))) (.seq (.seq (.reg r25_16) .ret) (.exit 0)))) (.seq (.seq (.reg r25_17) .ret) (.exit 0)))) (.seq (.seq (.reg r25_18) .ret) (.exit 0)))) (.reg r25_19))) (.seq (.seq (.reg r25_20) (.seq (.seq (.reg r25_21) (.cond (.v 27) (.seq (.reg r25_22) .ret) .skip)) (.seq (.reg r25_23) (.seq (.seq (.reg r25_24) (.cond (.v 28) (.seq (.reg r25_25) .ret) .skip)) (.seq (.reg r25_26) .ret))))) (.exit 0)))) (.seq (.seq (.reg r25_27) .ret) (.exit 0)))) (.seq (.seq (.reg r25_28) .ret) (.exit 0)))) (.seq (.seq (.reg r25_29) .ret) (.exit 0))))) (.seq (.reg r25_30) (.seq (.reg r25_31) (.seq (.reg r25_32) (.seq (.seq (.reg r25_33) (.block 10 (.seq (.reg r25_34) (.cond (.v 30) (.seq (.reg r25_35) .ret) (.seq (.reg r25_36) (.cond (.v 31) (.seq (.reg r25_37) .ret) .skip)))))) (.seq (.reg r25_38) .ret)))))))))))
noncomputable def q25 : List RR := [(.slot (.v 6))]
theorem k25 : FnOk M 25 3 Tryz.f25 E25 c25 q25 := fnOk Tryz.func25
noncomputable def E8 (n m : Nat) : Cfg := ⟨M, [0, 1, 2, 3, 4, 5, 8, 18], 25, n, m, []⟩
noncomputable def C8 : Cfg := E8 0 0
noncomputable abbrev r8_0 : List RO := [
  ⟨.v 4, .box, [.v 0], none⟩,
  ⟨.v 5, .box, [.v 1], none⟩,
  ⟨.v 6, .mv, [.con (.int .i64 0)], none⟩]
noncomputable abbrev r8_1 : List RO := [
  ⟨.l 9, .ld true 6, [.v 5], none⟩,
  ⟨.l 10, (.bld [(.str []), (.str []), (.int .i64 0), (.str []), (.str []), (.int .i64 0), (.int .i64 0), (.lit (.slice none 0 0))] [(0, 1), (1, 1), (2, 6)]), [(.con (.str [114])), (.con (.str [107])), .l 9], none⟩,
  ⟨.l 11, .call, [(.con (.fn (.func 23) [] [])), .l 10], none⟩,
  ⟨.l 12, .un .not, [.l 11], none⟩,
  ⟨.l 13, .mv, [.l 12], none⟩,
  ⟨.l 14, .ld true 1, [.v 4], (some (.l 13, false))⟩,
  ⟨.l 15, .mv, [.v 2], (some (.l 13, false))⟩,
  ⟨.l 16, .call, [(.con (.fn (.func 24) [] [])), .l 14, .l 15], (some (.l 13, false))⟩,
  ⟨.l 17, .bin .eql, [.l 16, (.con (.str []))], (some (.l 13, false))⟩,
  ⟨.v 7, .pick, [.l 13, .con (.bool true), .l 17], none⟩]
noncomputable abbrev r8_2 : List RO := [
  ⟨.v 6, .mv, [.con (.int .i64 0)], none⟩]
noncomputable abbrev r8_3 : List RO := [
  ⟨.l 19, .ld true 1, [.v 4], none⟩,
  ⟨.l 20, .mv, [.v 3], none⟩,
  ⟨.l 21, (.bld [(.lit (.slice none 0 0)), (.int .i64 0)] [(0, 1), (1, 1)]), [.l 19, .l 20], none⟩,
  ⟨.l 22, .ld true 6, [.v 5], none⟩,
  ⟨.l 23, .mv, [.v 2], none⟩,
  ⟨.l 24, .call, [(.con (.fn (.func 25) [] [])), .l 21, .l 22, .l 23], none⟩,
  ⟨.v 6, .mv, [.l 24], none⟩]
theorem P8 : C8.M = M := by unfold C8 E8; rfl
theorem i8 {a0 a1 a2 a3 : D} : St.init C8 [a0, a1, a2, a3] ⟨[], []⟩ = ⟨[a0, a1, a2, a3, .u0, .u0, .u0, .u0], [], ⟨[], []⟩⟩ := by unfold C8 E8; rfl
noncomputable def c8 : RC := (.seq (.reg r8_0) (.seq (.seq (.reg r8_1) (.cond (.v 7) (.seq (.reg r8_2) .ret) .skip)) (.seq (.reg r8_3) .ret)))
noncomputable def q8 : List RR := [(.slot (.v 6))]
theorem k8 : FnOk M 8 4 Tryz.f8 E8 c8 q8 := fnOk Tryz.func8
end Go.Proofs.YtcchbohfcmfmlaaGreat
end
