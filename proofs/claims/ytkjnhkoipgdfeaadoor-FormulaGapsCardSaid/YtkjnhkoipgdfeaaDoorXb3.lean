/- Own texts, merged by a program: the engine that walks the code, and what the functions that the law reaches compute. -/
import Derived.Test.YtkjnhkoipgdfeaaDoorXb2
import Derived.Lib.LaidTab
import Derived.Sort.Grow
import Derived.Deep.Draws
import Derived.ChangeSame
import Derived.ChangeShapes
import Derived.RowKit
import Derived.RangeFuncLeaves
import Derived.RangeFuncIn
import Derived.RangeFuncRecord
import Derived.Deep.Slices
import Derived.OpenShut
import Derived.Carry
import Derived.Shelf.Vars
import Derived.Laws.AppendOwn
import Derived.KernelRfl
import Derived.Shelf.Strings.Builder1
import Derived.Shelf.Small.Strs
import Derived.Shelf.Strings.BuilderF
import Derived.Shelf.Strings.BuilderK
import Derived.Shelf.Strconv.Atoi
import Derived.Shelf.Strconv.Itoa0
import Derived.Shelf.Strconv.Itoa1
import Derived.Shelf.LaysM
import Derived.Shelf.Strconv.Itoa2
import Derived.Shelf.Strconv.Itoa3
import Derived.Shelf.Strconv.AtoiErrFast
import Derived.Shelf.Strconv.ParseIntEmpty
import Derived.Shelf.Strconv.AtoiFail
import Derived.Shelf.Strconv.Clone
import Derived.Shelf.Strconv.SyntaxError
import Derived.Shelf.LaysC
import Derived.Shelf.Strconv.ToError
import Derived.Shelf.Strconv.AtoiErr
import Derived.Shelf.Strconv.ErrVar
import Derived.Shelf.Strconv.Lower
import Derived.Shelf.Strconv.ParseUint10
import Derived.Shelf.Strconv.ParseUint10Empty
import Derived.Shelf.Strconv.ParseUint10Any
import Derived.Shelf.Strconv.ParseInt10
import Derived.Shelf.Strconv.AtoiLong
import Derived.Shelf.Strconv.AtoiInnerAll
import Derived.Shelf.Strconv.RangeError
import Derived.Shelf.Strconv.ToErrorRange
import Derived.Shelf.Strconv.AtoiAll
import Derived.Shelf.Strconv.ErrVarAll
import Derived.Shelf.Strconv.ParseUintEmpty
import Derived.Shelf.Strconv.ParseUint10b64
import Derived.Shelf.Strconv.ParseUint10b32
import Derived.Shelf.Strconv.ParseUint10b16
import Derived.Shelf.Strconv.ParseUint10b8
import Derived.Shelf.Strconv.ParseUint10At
import Derived.Shelf.Strconv.ParseInt10At64
import Derived.Shelf.Strconv.ParseInt10At32
import Derived.Shelf.Strconv.ParseInt10At16
import Derived.Shelf.Strconv.ParseInt10At8
import Derived.Shelf.Strconv.ParseInt10All
import Derived.Shelf.Strings.Search1
import Derived.Shelf.Bits.Mul64
import Derived.Shelf.Strings.BuilderCap
import Derived.Test.YtkjnhkoipgdfeaaDoorProg
section
set_option linter.unusedSimpArgs false
set_option maxHeartbeats 1000000
namespace GoV
open Go
def OpS (P : Mod) (oc : OC) (ds : List D) (dst : Dst) (r : List RO) (K : St → Prop) (s : St) : Prop :=
 OcWp P oc ds s.hp fun d hp => opsWp P r K ({ s with hp := hp }.put dst d)
def GdS (P : Mod) (b : D) (g : Opd) (want : Bool) (dst : Dst) (oc : OC) (args : List Opd) (r : List RO) (K : St → Prop) (s : St) : Prop :=
 match b with
 | .bool b => (b = want → opsWp P (⟨dst, oc, args, none⟩ :: r) K (s.setO g (.bool want))) ∧ (b = (!want) → opsWp P r K ((s.setO g (.bool (!want))).put dst .skip))
 | .skip => opsWp P r K (s.put dst .skip)
 | _ => False
def OpQ (P : Mod) (oc : OC) (ds : List D) (dst : Dst) (rq : List (RO × Bool)) (K : St → Prop) (s : St) : Prop :=
 zAg P oc ds s.hp fun d => opsQ P rq K (s.put dst d)
def GdQ (P : Mod) (qf : Bool) (b : D) (g : Opd) (want : Bool) (dst : Dst) (oc : OC) (args : List Opd) (rq : List (RO × Bool)) (K : St → Prop) (s : St) : Prop :=
 match b with
 | .bool b => (b = want → opsQ P ((⟨dst, oc, args, none⟩, qf) :: rq) K (s.setO g (.bool want))) ∧ (b = (!want) → opsQ P rq K ((s.setO g (.bool (!want))).put dst .skip))
 | .skip => opsQ P rq K (s.put dst .skip)
 | _ => False
def OpC (P : Mod) (oc : OC) (ds : List D) (dst : Dst) (rq : List (RO × Bool)) (K : St → Prop) (s : St) : Prop :=
 detWp P oc ds s.hp fun d hp => opsQ P rq K ({ s with hp := hp }.put dst d)
def LdS (P : Mod) (ag : Bool) (n : Nat) (B : Option Blk) (off : Nat) (dst : Dst) (r : List RO) (K : St → Prop) (s : St) : Prop :=
 ∃ B' cs, B = some B' ∧ B'.csq = some cs ∧ off + n ≤ cs.length ∧ opsWp P r K (s.put dst (if ag then .agg ((cs.drop off).take n) else cs.getD off .u0))
def LdQ (P : Mod) (ag : Bool) (n : Nat) (B : Option Blk) (off : Nat) (dst : Dst) (rq : List (RO × Bool)) (K : St → Prop) (s : St) : Prop :=
 ∃ B' cs, B = some B' ∧ B'.csq = some cs ∧ off + n ≤ cs.length ∧ opsQ P rq K (s.put dst (if ag then .agg ((cs.drop off).take n) else cs.getD off .u0))
def StS (P : Mod) (n : Nat) (B : Option Blk) (b off : Nat) (v : D) (dst : Dst) (r : List RO) (K : St → Prop) (s : St) : Prop :=
 ∃ B' cs, B = some B' ∧ B'.csq = some cs ∧ v.iV = true ∧ v.cells.length = n ∧ off + n ≤ cs.length ∧ opsWp P r K ({ s with hp := { s.hp with H := s.hp.H.set b (B'.putc (setL cs off v.cells)) } }.put dst .skip)
def BlS (P : Mod) (cs : Option (List D)) (dst : Dst) (r : List RO) (K : St → Prop) (s : St) : Prop := ∃ c, cs = some c ∧ opsWp P r K (s.put dst (.agg c))
def BlQ (P : Mod) (cs : Option (List D)) (dst : Dst) (rq : List (RO × Bool)) (K : St → Prop) (s : St) : Prop := ∃ c, cs = some c ∧ opsQ P rq K (s.put dst (.agg c))
def EqS (P : Mod) (neg : Bool) (b : Option Bool) (dst : Dst) (r : List RO) (K : St → Prop) (s : St) : Prop := ∃ c, b = some c ∧ opsWp P r K (s.put dst (.bool (if neg then !c else c)))
def EqQ (P : Mod) (neg : Bool) (b : Option Bool) (dst : Dst) (rq : List (RO × Bool)) (K : St → Prop) (s : St) : Prop := ∃ c, b = some c ∧ opsQ P rq K (s.put dst (.bool (if neg then !c else c)))
def LgS (P : Mod) (ag : Bool) (n : Nat) (V : Option Tv) (m off : Nat) (dst : Dst) (r : List RO) (K : St → Prop) (s : St) : Prop :=
 ∃ k cs, V = some (.chg k cs) ∧ cs.length = m * k ∧ off + n ≤ cs.length ∧ opsWp P r K (s.put dst (if ag then .agg ((cs.drop off).take n) else cs.getD off .u0))
def LgQ (P : Mod) (ag : Bool) (n : Nat) (V : Option Tv) (m off : Nat) (dst : Dst) (rq : List (RO × Bool)) (K : St → Prop) (s : St) : Prop :=
 ∃ k cs, V = some (.chg k cs) ∧ cs.length = m * k ∧ off + n ≤ cs.length ∧ opsQ P rq K (s.put dst (if ag then .agg ((cs.drop off).take n) else cs.getD off .u0))
def SgS (P : Mod) (n : Nat) (V : Option Tv) (t m off : Nat) (v : D) (dst : Dst) (r : List RO) (K : St → Prop) (s : St) : Prop :=
 ∃ k cs, V = some (.chg k cs) ∧ cs.length = m * k ∧ v.iV = true ∧ v.cells.length = n ∧ off + n ≤ cs.length ∧ opsWp P r K ({ s with hp := { s.hp with tk := s.hp.tk.set t (.chg k (setL cs off v.cells)) } }.put dst .skip)
def MmS (P : Mod) (k : IntKind) (b : Option Int) (dst : Dst) (r : List RO) (K : St → Prop) (s : St) : Prop := ∃ c, b = some c ∧ opsWp P r K (s.put dst (.int k c))
def MmQ (P : Mod) (k : IntKind) (b : Option Int) (dst : Dst) (rq : List (RO × Bool)) (K : St → Prop) (s : St) : Prop := ∃ c, b = some c ∧ opsQ P rq K (s.put dst (.int k c))
section
variable {P : Mod} {oc : OC} {args : List Opd} {dst : Dst} {r : List RO} {rq : List (RO × Bool)} {qf : Bool} {K : St → Prop} {s : St} {g : Opd} {want : Bool} {k k' : IntKind} {a b : Int} {x y : D} {ds : List D}
theorem e_nil : opsWp P [] K s = K s := propext Iff.rfl
theorem e_step : opsWp P (⟨dst, oc, args, none⟩ :: r) K s = OpS P oc (args.map s.get) dst r K s := propext Iff.rfl
theorem e_guard : opsWp P (⟨dst, oc, args, some (g, want)⟩ :: r) K s = GdS P (s.get g) g want dst oc args r K s := by
 simp only [opsWp, headWp, GdS]
 cases s.get g <;> simp only [opsWp, headWp, zDm]
theorem f_nil : opsQ P [] K s = K s := propext Iff.rfl
theorem f_step : opsQ P ((⟨dst, oc, args, none⟩, true) :: rq) K s = OpQ P (qOp oc) (args.map s.get) dst rq K s := propext Iff.rfl
theorem f_stepD : opsQ P ((⟨dst, oc, args, none⟩, false) :: rq) K s = if zAa (qOp oc) = true then OpC P (qOp oc) (args.map s.get) dst rq K s else OpS P (qOp oc) (args.map s.get) dst [] (opsQ P rq K) s := by
 split
 ·rfl
 ·rename_i hc
  show detWp _ _ _ _ _ = _
  rw [det_op (qOp_ne _) (by simpa using hc)]; rfl
theorem f_guard : opsQ P ((⟨dst, oc, args, some (g, want)⟩, qf) :: rq) K s = GdQ P qf (s.get g) g want dst oc args rq K s := by
 simp only [opsQ, headQ, GdQ]
 cases s.get g <;> simp only [opsQ, headQ, zDm]
theorem g_tt : GdS P (.bool true) g true dst oc args r K s = opsWp P (⟨dst, oc, args, none⟩ :: r) K (s.setO g (.bool true)) := by simp [GdS]
theorem g_tf : GdS P (.bool true) g false dst oc args r K s = opsWp P r K ((s.setO g (.bool true)).put dst .skip) := by simp [GdS]
theorem g_ft : GdS P (.bool false) g true dst oc args r K s = opsWp P r K ((s.setO g (.bool false)).put dst .skip) := by simp [GdS]
theorem g_ff : GdS P (.bool false) g false dst oc args r K s = opsWp P (⟨dst, oc, args, none⟩ :: r) K (s.setO g (.bool false)) := by simp [GdS]
theorem g_sk : GdS P .skip g want dst oc args r K s = opsWp P r K (s.put dst .skip) := propext Iff.rfl
theorem h_tt : GdQ P qf (.bool true) g true dst oc args rq K s = opsQ P ((⟨dst, oc, args, none⟩, qf) :: rq) K (s.setO g (.bool true)) := by simp [GdQ]
theorem h_tf : GdQ P qf (.bool true) g false dst oc args rq K s = opsQ P rq K ((s.setO g (.bool true)).put dst .skip) := by simp [GdQ]
theorem h_ft : GdQ P qf (.bool false) g true dst oc args rq K s = opsQ P rq K ((s.setO g (.bool false)).put dst .skip) := by simp [GdQ]
theorem h_ff : GdQ P qf (.bool false) g false dst oc args rq K s = opsQ P ((⟨dst, oc, args, none⟩, qf) :: rq) K (s.setO g (.bool false)) := by simp [GdQ]
theorem h_sk : GdQ P qf .skip g want dst oc args rq K s = opsQ P rq K (s.put dst .skip) := propext Iff.rfl
theorem gd_split {c : Bool} (h1 : c = true → GdS P (.bool true) g want dst oc args r K s) (h2 : c = false → GdS P (.bool false) g want dst oc args r K s) : GdS P (.bool c) g want dst oc args r K s := by
 cases c
 ·exact h2 rfl
 ·exact h1 rfl
theorem gq_split {c : Bool} (h1 : c = true → GdQ P qf (.bool true) g want dst oc args rq K s) (h2 : c = false → GdQ P qf (.bool false) g want dst oc args rq K s) : GdQ P qf (.bool c) g want dst oc args rq K s := by
 cases c
 ·exact h2 rfl
 ·exact h1 rfl
theorem o_mv : OpS P .mv [x] dst r K s = opsWp P r K (s.put dst x) := propext Iff.rfl
theorem p_mv : OpQ P .mv [x] dst rq K s = opsQ P rq K (s.put dst x) := by simp [OpQ, zAg, zAa, opWp]
theorem o_nckP {q : Program} {bk o : Nat} : OpS P (.nck q) [.ptr bk o] dst r K s = opsWp P r K (s.put dst (.ptr bk o)) := by simp [OpS, OcWp, zAa, isPan, opWp, nckIs]
theorem p_nckP {q : Program} {bk o : Nat} : OpQ P (.nck q) [.ptr bk o] dst rq K s = opsQ P rq K (s.put dst (.ptr bk o)) := by simp [OpQ, zAg, zAa, opWp, nckIs]
theorem o_nckI {q : Program} {cs : List D} : OpS P (.nck q) [.ip cs] dst r K s = opsWp P r K (s.put dst (.ip cs)) := by simp [OpS, OcWp, zAa, isPan, opWp, nckIs]
theorem p_nckI {q : Program} {cs : List D} : OpQ P (.nck q) [.ip cs] dst rq K s = opsQ P rq K (s.put dst (.ip cs)) := by simp [OpQ, zAg, zAa, opWp, nckIs]
theorem o_nckG {q : Program} {t m o : Nat} : OpS P (.nck q) [.gp t m o] dst r K s = opsWp P r K (s.put dst (.gp t m o)) := by simp [OpS, OcWp, zAa, isPan, opWp, nckIs]
theorem p_nckG {q : Program} {t m o : Nat} : OpQ P (.nck q) [.gp t m o] dst rq K s = opsQ P rq K (s.put dst (.gp t m o)) := by simp [OpQ, zAg, zAa, opWp, nckIs]
theorem o_nckM {q : Program} {name : String} {t : TypeId} {d : D} : OpS P (.nck q) [.fn (.method name) [.iface t d] []] dst r K s = (nckOk (zCi q t name) ∧ opsWp P r K (s.put dst (.fn (.method name) [.iface t d] []))) := by simp [OpS, OcWp, zAa, isPan, opWp, nckIs, nckFn_iff]
theorem p_nckM {q : Program} {name : String} {t : TypeId} {d : D} : OpQ P (.nck q) [.fn (.method name) [.iface t d] []] dst rq K s = (nckOk (zCi q t name) ∧ opsQ P rq K (s.put dst (.fn (.method name) [.iface t d] []))) := by simp [OpQ, zAg, zAa, opWp, nckIs, nckFn_iff]
theorem o_pickT : OpS P .pick [.bool true, x, y] dst r K s = opsWp P r K (s.put dst x) := by simp [OpS, OcWp, zAa, isPan, opWp]
theorem o_pickF : OpS P .pick [.bool false, x, y] dst r K s = opsWp P r K (s.put dst y) := by simp [OpS, OcWp, zAa, isPan, opWp]
theorem p_pickT : OpQ P .pick [.bool true, x, y] dst rq K s = opsQ P rq K (s.put dst x) := by simp [OpQ, zAg, zAa, opWp]
theorem p_pickF : OpQ P .pick [.bool false, x, y] dst rq K s = opsQ P rq K (s.put dst y) := by simp [OpQ, zAg, zAa, opWp]
theorem o_add : OpS P (.bin .add) [.int k a, .int k b] dst r K s = opsWp P r K (s.put dst (.int k (k.wrap (a + b)))) := by simp [OpS, OcWp, zAa, isPan, opWp, binWp]
theorem o_sub : OpS P (.bin .sub) [.int k a, .int k b] dst r K s = opsWp P r K (s.put dst (.int k (k.wrap (a - b)))) := by simp [OpS, OcWp, zAa, isPan, opWp, binWp]
theorem o_mul : OpS P (.bin .mul) [.int k a, .int k b] dst r K s = opsWp P r K (s.put dst (.int k (k.wrap (a * b)))) := by simp [OpS, OcWp, zAa, isPan, opWp, binWp]
theorem o_quo : OpS P (.bin .quo) [.int k a, .int k b] dst r K s = (b ≠ 0 ∧ opsWp P r K (s.put dst (.int k (k.wrap (a.tdiv b))))) := by simp [OpS, OcWp, zAa, isPan, opWp, binWp]
theorem o_rem : OpS P (.bin .rem) [.int k a, .int k b] dst r K s = (b ≠ 0 ∧ opsWp P r K (s.put dst (.int k (a.tmod b)))) := by simp [OpS, OcWp, zAa, isPan, opWp, binWp]
theorem o_and : OpS P (.bin .and) [.int k a, .int k b] dst r K s = opsWp P r K (s.put dst (.int k (bitsV .and k a b))) := by simp [OpS, OcWp, zAa, isPan, opWp, binWp]
theorem o_or : OpS P (.bin .or) [.int k a, .int k b] dst r K s = opsWp P r K (s.put dst (.int k (bitsV .or k a b))) := by simp [OpS, OcWp, zAa, isPan, opWp, binWp]
theorem o_xor : OpS P (.bin .xor) [.int k a, .int k b] dst r K s = opsWp P r K (s.put dst (.int k (bitsV .xor k a b))) := by simp [OpS, OcWp, zAa, isPan, opWp, binWp]
theorem o_shl : OpS P (.bin .shl) [.int k a, .int k' b] dst r K s = (0 ≤ b ∧ opsWp P r K (s.put dst (.int k (k.wrap (a * 2 ^ (min b.toNat k.bits)))))) := by simp [OpS, OcWp, zAa, isPan, opWp, binWp]
theorem o_shr : OpS P (.bin .shr) [.int k a, .int k' b] dst r K s = (0 ≤ b ∧ opsWp P r K (s.put dst (.int k (a.fdiv (2 ^ (min b.toNat k.bits)))))) := by simp [OpS, OcWp, zAa, isPan, opWp, binWp]
theorem o_eql : OpS P (.bin .eql) [.int k a, .int k b] dst r K s = opsWp P r K (s.put dst (.bool (a == b))) := by simp [OpS, OcWp, zAa, isPan, opWp, binWp]
theorem o_neq : OpS P (.bin .neq) [.int k a, .int k b] dst r K s = opsWp P r K (s.put dst (.bool (a != b))) := by simp [OpS, OcWp, zAa, isPan, opWp, binWp]
theorem o_lss : OpS P (.bin .lss) [.int k a, .int k b] dst r K s = opsWp P r K (s.put dst (.bool (decide (a < b)))) := by simp [OpS, OcWp, zAa, isPan, opWp, binWp]
theorem o_leq : OpS P (.bin .leq) [.int k a, .int k b] dst r K s = opsWp P r K (s.put dst (.bool (decide (a ≤ b)))) := by simp [OpS, OcWp, zAa, isPan, opWp, binWp]
theorem o_gtr : OpS P (.bin .gtr) [.int k a, .int k b] dst r K s = opsWp P r K (s.put dst (.bool (decide (b < a)))) := by simp [OpS, OcWp, zAa, isPan, opWp, binWp]
theorem o_geq : OpS P (.bin .geq) [.int k a, .int k b] dst r K s = opsWp P r K (s.put dst (.bool (decide (b ≤ a)))) := by simp [OpS, OcWp, zAa, isPan, opWp, binWp]
theorem p_add : OpQ P (.bin .add) [.int k a, .int k b] dst rq K s = opsQ P rq K (s.put dst (.int k (k.wrap (a + b)))) := by simp [OpQ, zAg, zAa, opWp, binWp]
theorem p_sub : OpQ P (.bin .sub) [.int k a, .int k b] dst rq K s = opsQ P rq K (s.put dst (.int k (k.wrap (a - b)))) := by simp [OpQ, zAg, zAa, opWp, binWp]
theorem p_mul : OpQ P (.bin .mul) [.int k a, .int k b] dst rq K s = opsQ P rq K (s.put dst (.int k (k.wrap (a * b)))) := by simp [OpQ, zAg, zAa, opWp, binWp]
theorem p_quo : OpQ P (.bin .quo) [.int k a, .int k b] dst rq K s = (b ≠ 0 ∧ opsQ P rq K (s.put dst (.int k (k.wrap (a.tdiv b))))) := by simp [OpQ, zAg, zAa, opWp, binWp]
theorem p_rem : OpQ P (.bin .rem) [.int k a, .int k b] dst rq K s = (b ≠ 0 ∧ opsQ P rq K (s.put dst (.int k (a.tmod b)))) := by simp [OpQ, zAg, zAa, opWp, binWp]
theorem p_eql : OpQ P (.bin .eql) [.int k a, .int k b] dst rq K s = opsQ P rq K (s.put dst (.bool (a == b))) := by simp [OpQ, zAg, zAa, opWp, binWp]
theorem p_neq : OpQ P (.bin .neq) [.int k a, .int k b] dst rq K s = opsQ P rq K (s.put dst (.bool (a != b))) := by simp [OpQ, zAg, zAa, opWp, binWp]
theorem p_lss : OpQ P (.bin .lss) [.int k a, .int k b] dst rq K s = opsQ P rq K (s.put dst (.bool (decide (a < b)))) := by simp [OpQ, zAg, zAa, opWp, binWp]
theorem p_leq : OpQ P (.bin .leq) [.int k a, .int k b] dst rq K s = opsQ P rq K (s.put dst (.bool (decide (a ≤ b)))) := by simp [OpQ, zAg, zAa, opWp, binWp]
theorem p_gtr : OpQ P (.bin .gtr) [.int k a, .int k b] dst rq K s = opsQ P rq K (s.put dst (.bool (decide (b < a)))) := by simp [OpQ, zAg, zAa, opWp, binWp]
theorem p_geq : OpQ P (.bin .geq) [.int k a, .int k b] dst rq K s = opsQ P rq K (s.put dst (.bool (decide (b ≤ a)))) := by simp [OpQ, zAg, zAa, opWp, binWp]
theorem o_cat {u v : List UInt8} : OpS P (.bin .add) [.str u, .str v] dst r K s = (u.length + v.length ≤ 4611686018427387904 ∧ opsWp P r K (s.put dst (.str (u ++ v)))) := by simp [OpS, OcWp, zAa, isPan, opWp, binWp]
theorem o_seq {u v : List UInt8} : OpS P (.bin .eql) [.str u, .str v] dst r K s = opsWp P r K (s.put dst (.bool (u == v))) := by simp [OpS, OcWp, zAa, isPan, opWp, binWp]
theorem o_sne {u v : List UInt8} : OpS P (.bin .neq) [.str u, .str v] dst r K s = opsWp P r K (s.put dst (.bool (!(u == v)))) := by simp [OpS, OcWp, zAa, isPan, opWp, binWp]
theorem o_slt {u v : List UInt8} : OpS P (.bin .lss) [.str u, .str v] dst r K s = opsWp P r K (s.put dst (.bool (Op.bytesLess u v))) := by simp [OpS, OcWp, zAa, isPan, opWp, binWp]
theorem p_cat {u v : List UInt8} : OpQ P (.bin .add) [.str u, .str v] dst rq K s = (u.length + v.length ≤ 4611686018427387904 ∧ opsQ P rq K (s.put dst (.str (u ++ v)))) := by simp [OpQ, zAg, zAa, opWp, binWp]
theorem p_seq {u v : List UInt8} : OpQ P (.bin .eql) [.str u, .str v] dst rq K s = opsQ P rq K (s.put dst (.bool (u == v))) := by simp [OpQ, zAg, zAa, opWp, binWp]
theorem p_sne {u v : List UInt8} : OpQ P (.bin .neq) [.str u, .str v] dst rq K s = opsQ P rq K (s.put dst (.bool (!(u == v)))) := by simp [OpQ, zAg, zAa, opWp, binWp]
theorem p_slt {u v : List UInt8} : OpQ P (.bin .lss) [.str u, .str v] dst rq K s = opsQ P rq K (s.put dst (.bool (Op.bytesLess u v))) := by simp [OpQ, zAg, zAa, opWp, binWp]
theorem o_beqF {u v : Bool} : OpS P (.eqB false) [.bool u, .bool v] dst r K s = opsWp P r K (s.put dst (.bool (u == v))) := by simp [OpS, OcWp, zAa, isPan, opWp]
theorem o_beqT {u v : Bool} : OpS P (.eqB true) [.bool u, .bool v] dst r K s = opsWp P r K (s.put dst (.bool (!(u == v)))) := by simp [OpS, OcWp, zAa, isPan, opWp]
theorem p_beqF {u v : Bool} : OpQ P (.eqB false) [.bool u, .bool v] dst rq K s = opsQ P rq K (s.put dst (.bool (u == v))) := by simp [OpQ, zAg, zAa, opWp]
theorem p_beqT {u v : Bool} : OpQ P (.eqB true) [.bool u, .bool v] dst rq K s = opsQ P rq K (s.put dst (.bool (!(u == v)))) := by simp [OpQ, zAg, zAa, opWp]
theorem o_eqA {neg : Bool} {ks : List EK} {u v : List D} : OpS P (.eqA neg ks) [.agg u, .agg v] dst r K s = EqS P neg (eqDs ks u v) dst r K s := by simp [OpS, OcWp, zAa, isPan, opWp, EqS]
theorem p_eqA {neg : Bool} {ks : List EK} {u v : List D} : OpQ P (.eqA neg ks) [.agg u, .agg v] dst rq K s = EqQ P neg (eqDs ks u v) dst rq K s := by simp [OpQ, zAg, zAa, opWp, EqQ]
theorem q_eqSF {c : Bool} : EqS P false (some c) dst r K s = opsWp P r K (s.put dst (.bool c)) := by simp [EqS]
theorem q_eqST {c : Bool} : EqS P true (some c) dst r K s = opsWp P r K (s.put dst (.bool (!c))) := by simp [EqS]
theorem q_eqQF {c : Bool} : EqQ P false (some c) dst rq K s = opsQ P rq K (s.put dst (.bool c)) := by simp [EqQ]
theorem q_eqQT {c : Bool} : EqQ P true (some c) dst rq K s = opsQ P rq K (s.put dst (.bool (!c))) := by simp [EqQ]
theorem o_neg : OpS P (.un .neg) [.int k a] dst r K s = opsWp P r K (s.put dst (.int k (k.wrap (0 - a)))) := by simp [OpS, OcWp, zAa, isPan, opWp, unWp]
theorem p_neg : OpQ P (.un .neg) [.int k a] dst rq K s = opsQ P rq K (s.put dst (.int k (k.wrap (0 - a)))) := by simp [OpQ, zAg, zAa, opWp, unWp]
theorem o_not {c : Bool} : OpS P (.un .not) [.bool c] dst r K s = opsWp P r K (s.put dst (.bool (!c))) := by simp [OpS, OcWp, zAa, isPan, opWp, unWp]
theorem p_not {c : Bool} : OpQ P (.un .not) [.bool c] dst rq K s = opsQ P rq K (s.put dst (.bool (!c))) := by simp [OpQ, zAg, zAa, opWp, unWp]
theorem o_cvI : OpS P (.cvI k) [.int k' a] dst r K s = opsWp P r K (s.put dst (.int k (k.wrap a))) := by simp [OpS, OcWp, zAa, isPan, opWp]
theorem p_cvI : OpQ P (.cvI k) [.int k' a] dst rq K s = opsQ P rq K (s.put dst (.int k (k.wrap a))) := by simp [OpQ, zAg, zAa, opWp]
theorem o_newb {z : List D} : OpS P (.newb z) [] dst r K s = opsWp P r K ({ s with hp := { s.hp with H := s.hp.H ++ [Blk.cells z] } }.put dst (.ptr s.hp.H.length 0)) := by simp [OpS, OcWp, zAa, isPan, opWp]
theorem o_newT {z : List D} {bty : TypeId} : OpS P (.newT bty z) [] dst r K s = opsWp P r K ({ s with hp := { s.hp with H := s.hp.H ++ [Blk.tcells bty z] } }.put dst (.ptr s.hp.H.length 0)) := by simp [OpS, OcWp, zAa, isPan, opWp]
theorem o_eqN {neg : Bool} : OpS P (.eqN neg) [x, .lit (.slice none 0 0)] dst r K s = eqnWp neg x (fun d => opsWp P r K (s.put dst d)) := by simp [OpS, OcWp, zAa, isPan, opWp]
theorem n_nil {neg : Bool} {K : D → Prop} : eqnWp neg (.lit (.slice none 0 0)) K = K (.bool (!neg)) := rfl
theorem n_emp {neg : Bool} {own : Own} {K : D → Prop} : eqnWp neg (.slice [] own) K = ∀ b, K (.bool b) := rfl
theorem n_cons {neg : Bool} {y : D} {ys : List D} {own : Own} {K : D → Prop} : eqnWp neg (.slice (y :: ys) own) K = K (.bool neg) := rfl
theorem n_sl {neg : Bool} {b k off len cap : Nat} {K : D → Prop} : eqnWp neg (.sl b k off len cap) K = K (.bool neg) := rfl
theorem o_box : OpS P .box [x] dst r K s = (x.iV = true ∧ opsWp P r K ({ s with hp := { s.hp with H := s.hp.H ++ [Blk.cells x.cells] } }.put dst (.ptr s.hp.H.length 0))) := by simp [OpS, OcWp, zAa, isPan, opWp]
theorem o_bld {z : List D} {ps : List (Nat × Nat)} : OpS P (.bld z ps) ds dst r K s = BlS P (fillL z ps ds) dst r K s := by simp [OpS, OcWp, zAa, isPan, opWp, BlS]
theorem p_bld {z : List D} {ps : List (Nat × Nat)} : OpQ P (.bld z ps) ds dst rq K s = BlQ P (fillL z ps ds) dst rq K s := by simp [OpQ, zAg, zAa, opWp, BlQ]
theorem q_blS {c : List D} : BlS P (some c) dst r K s = opsWp P r K (s.put dst (.agg c)) := by simp [BlS]
theorem q_blQ {c : List D} : BlQ P (some c) dst rq K s = opsQ P rq K (s.put dst (.agg c)) := by simp [BlQ]
theorem o_ldp {ag : Bool} {n bk off : Nat} : OpS P (.ld ag n) [.ptr bk off] dst r K s = LdS P ag n (s.hp.H[bk]?) off dst r K s := by simp [OpS, OcWp, zAa, isPan, opWp, LdS]
theorem p_ldp {ag : Bool} {n bk off : Nat} : OpQ P (.ld ag n) [.ptr bk off] dst rq K s = LdQ P ag n (s.hp.H[bk]?) off dst rq K s := by simp [OpQ, zAg, zAa, opWp, LdQ]
theorem q_ldST {n off : Nat} {cs : List D} : LdS P true n (some (.cells cs)) off dst r K s = (off + n ≤ cs.length ∧ opsWp P r K (s.put dst (.agg ((cs.drop off).take n)))) := by simp [LdS, Blk.csq, Blk.putc]
theorem q_ldSTt {n off : Nat} {bty : TypeId} {cs : List D} : LdS P true n (some (.tcells bty cs)) off dst r K s = (off + n ≤ cs.length ∧ opsWp P r K (s.put dst (.agg ((cs.drop off).take n)))) := by simp [LdS, Blk.csq, Blk.putc]
theorem q_ldSF {n off : Nat} {cs : List D} : LdS P false n (some (.cells cs)) off dst r K s = (off + n ≤ cs.length ∧ opsWp P r K (s.put dst (cs.getD off .u0))) := by simp [LdS, Blk.csq, Blk.putc]
theorem q_ldSFt {n off : Nat} {bty : TypeId} {cs : List D} : LdS P false n (some (.tcells bty cs)) off dst r K s = (off + n ≤ cs.length ∧ opsWp P r K (s.put dst (cs.getD off .u0))) := by simp [LdS, Blk.csq, Blk.putc]
theorem q_ldQT {n off : Nat} {cs : List D} : LdQ P true n (some (.cells cs)) off dst rq K s = (off + n ≤ cs.length ∧ opsQ P rq K (s.put dst (.agg ((cs.drop off).take n)))) := by simp [LdQ, Blk.csq, Blk.putc]
theorem q_ldQTt {n off : Nat} {bty : TypeId} {cs : List D} : LdQ P true n (some (.tcells bty cs)) off dst rq K s = (off + n ≤ cs.length ∧ opsQ P rq K (s.put dst (.agg ((cs.drop off).take n)))) := by simp [LdQ, Blk.csq, Blk.putc]
theorem q_ldQF {n off : Nat} {cs : List D} : LdQ P false n (some (.cells cs)) off dst rq K s = (off + n ≤ cs.length ∧ opsQ P rq K (s.put dst (cs.getD off .u0))) := by simp [LdQ, Blk.csq, Blk.putc]
theorem q_ldQFt {n off : Nat} {bty : TypeId} {cs : List D} : LdQ P false n (some (.tcells bty cs)) off dst rq K s = (off + n ≤ cs.length ∧ opsQ P rq K (s.put dst (cs.getD off .u0))) := by simp [LdQ, Blk.csq, Blk.putc]
theorem o_ldiT {n : Nat} {cs : List D} : OpS P (.ld true n) [.ip cs] dst r K s = (0 < n ∧ n ≤ cs.length ∧ opsWp P r K (s.put dst (.agg (cs.take n)))) := by simp [OpS, OcWp, zAa, isPan, opWp]
theorem o_ldiF {n : Nat} {cs : List D} : OpS P (.ld false n) [.ip cs] dst r K s = (0 < n ∧ n ≤ cs.length ∧ opsWp P r K (s.put dst (cs.getD 0 .u0))) := by simp [OpS, OcWp, zAa, isPan, opWp]
theorem p_ldiT {n : Nat} {cs : List D} : OpQ P (.ld true n) [.ip cs] dst rq K s = (0 < n ∧ n ≤ cs.length ∧ opsQ P rq K (s.put dst (.agg (cs.take n)))) := by simp [OpQ, zAg, zAa, opWp]
theorem p_ldiF {n : Nat} {cs : List D} : OpQ P (.ld false n) [.ip cs] dst rq K s = (0 < n ∧ n ≤ cs.length ∧ opsQ P rq K (s.put dst (cs.getD 0 .u0))) := by simp [OpQ, zAg, zAa, opWp]
theorem o_stp {n bk off : Nat} : OpS P (.st n) [.ptr bk off, x] dst r K s = StS P n (s.hp.H[bk]?) bk off x dst r K s := by simp [OpS, OcWp, zAa, isPan, opWp, StS]
theorem q_stS {n bk off : Nat} {cs : List D} : StS P n (some (.cells cs)) bk off x dst r K s = (x.iV = true ∧ x.cells.length = n ∧ off + n ≤ cs.length ∧ opsWp P r K ({ s with hp := { s.hp with H := s.hp.H.set bk (.cells (setL cs off x.cells)) } }.put dst .skip)) := by simp [StS, Blk.csq, Blk.putc]
theorem q_stSt {n bk off : Nat} {bty : TypeId} {cs : List D} : StS P n (some (.tcells bty cs)) bk off x dst r K s = (x.iV = true ∧ x.cells.length = n ∧ off + n ≤ cs.length ∧ opsWp P r K ({ s with hp := { s.hp with H := s.hp.H.set bk (.tcells bty (setL cs off x.cells)) } }.put dst .skip)) := by simp [StS, Blk.csq, Blk.putc]
theorem o_fldp {off bk o : Nat} : OpS P (.fld off) [.ptr bk o] dst r K s = opsWp P r K (s.put dst (.ptr bk (o + off))) := by simp [OpS, OcWp, zAa, isPan, opWp]
theorem p_fldp {off bk o : Nat} : OpQ P (.fld off) [.ptr bk o] dst rq K s = opsQ P rq K (s.put dst (.ptr bk (o + off))) := by simp [OpQ, zAg, zAa, opWp]
theorem o_fldi {off : Nat} {cs : List D} : OpS P (.fld off) [.ip cs] dst r K s = opsWp P r K (s.put dst (.ip (cs.drop off))) := by simp [OpS, OcWp, zAa, isPan, opWp]
theorem p_fldi {off : Nat} {cs : List D} : OpQ P (.fld off) [.ip cs] dst rq K s = opsQ P rq K (s.put dst (.ip (cs.drop off))) := by simp [OpQ, zAg, zAa, opWp]
theorem o_fvT {off n : Nat} {cs : List D} : OpS P (.fv true off n) [.agg cs] dst r K s = (off + n ≤ cs.length ∧ opsWp P r K (s.put dst (.agg ((cs.drop off).take n)))) := by simp [OpS, OcWp, zAa, isPan, opWp]
theorem o_fvF {off n : Nat} {cs : List D} : OpS P (.fv false off n) [.agg cs] dst r K s = (off + n ≤ cs.length ∧ opsWp P r K (s.put dst (cs.getD off .u0))) := by simp [OpS, OcWp, zAa, isPan, opWp]
theorem p_fvT {off n : Nat} {cs : List D} : OpQ P (.fv true off n) [.agg cs] dst rq K s = (off + n ≤ cs.length ∧ opsQ P rq K (s.put dst (.agg ((cs.drop off).take n)))) := by simp [OpQ, zAg, zAa, opWp]
theorem p_fvF {off n : Nat} {cs : List D} : OpQ P (.fv false off n) [.agg cs] dst rq K s = (off + n ≤ cs.length ∧ opsQ P rq K (s.put dst (cs.getD off .u0))) := by simp [OpQ, zAg, zAa, opWp]
theorem o_ixaA {len n bk o : Nat} : OpS P (.ixaA len n) [.ptr bk o, .int k a] dst r K s = (0 ≤ a ∧ a < len ∧ opsWp P r K (s.put dst (.ptr bk (o + a.toNat * n)))) := by simp [OpS, OcWp, zAa, isPan, opWp]
theorem p_ixaA {len n bk o : Nat} : OpQ P (.ixaA len n) [.ptr bk o, .int k a] dst rq K s = (0 ≤ a ∧ a < len ∧ opsQ P rq K (s.put dst (.ptr bk (o + a.toNat * n)))) := by simp [OpQ, zAg, zAa, opWp]
theorem o_ixaS {n : Nat} {es : List D} {own : Own} : OpS P (.ixaS n) [.slice es own, .int k a] dst r K s = (0 ≤ a ∧ a < es.length ∧ (es.getD a.toNat .u0).iV = true ∧ (es.getD a.toNat .u0).cells.length = n ∧ opsWp P r K (s.put dst (.ip (es.getD a.toNat .u0).cells))) := by simp [OpS, OcWp, zAa, isPan, opWp]
theorem p_ixaS {n : Nat} {es : List D} {own : Own} : OpQ P (.ixaS n) [.slice es own, .int k a] dst rq K s = (0 ≤ a ∧ a < es.length ∧ (es.getD a.toNat .u0).iV = true ∧ (es.getD a.toNat .u0).cells.length = n ∧ opsQ P rq K (s.put dst (.ip (es.getD a.toNat .u0).cells))) := by simp [OpQ, zAg, zAa, opWp]
theorem o_ixvS {u : List UInt8} : OpS P .ixvS [.str u, .int k a] dst r K s = (0 ≤ a ∧ a < u.length ∧ opsWp P r K (s.put dst (.int .u8 (u.getD a.toNat 0).toNat))) := by simp [OpS, OcWp, zAa, isPan, opWp]
theorem p_ixvS {u : List UInt8} : OpQ P .ixvS [.str u, .int k a] dst rq K s = (0 ≤ a ∧ a < u.length ∧ opsQ P rq K (s.put dst (.int .u8 (u.getD a.toNat 0).toNat))) := by simp [OpQ, zAg, zAa, opWp]
theorem o_slTF {u : List UInt8} : OpS P (.slcS true false) [.str u, .int k a] dst r K s = (0 ≤ a ∧ a ≤ u.length ∧ opsWp P r K (s.put dst (.str (u.drop a.toNat)))) := by simp [OpS, OcWp, zAa, isPan, opWp]
theorem p_slTF {u : List UInt8} : OpQ P (.slcS true false) [.str u, .int k a] dst rq K s = (0 ≤ a ∧ a ≤ u.length ∧ opsQ P rq K (s.put dst (.str (u.drop a.toNat)))) := by simp [OpQ, zAg, zAa, opWp]
theorem o_slFT {u : List UInt8} : OpS P (.slcS false true) [.str u, .int k a] dst r K s = (0 ≤ a ∧ a ≤ u.length ∧ opsWp P r K (s.put dst (.str (u.take a.toNat)))) := by simp [OpS, OcWp, zAa, isPan, opWp]
theorem p_slFT {u : List UInt8} : OpQ P (.slcS false true) [.str u, .int k a] dst rq K s = (0 ≤ a ∧ a ≤ u.length ∧ opsQ P rq K (s.put dst (.str (u.take a.toNat)))) := by simp [OpQ, zAg, zAa, opWp]
theorem o_slTT {u : List UInt8} : OpS P (.slcS true true) [.str u, .int k a, .int k' b] dst r K s = (0 ≤ a ∧ a ≤ b ∧ b ≤ u.length ∧ opsWp P r K (s.put dst (.str ((u.take b.toNat).drop a.toNat)))) := by simp [OpS, OcWp, zAa, isPan, opWp]
theorem p_slTT {u : List UInt8} : OpQ P (.slcS true true) [.str u, .int k a, .int k' b] dst rq K s = (0 ≤ a ∧ a ≤ b ∧ b ≤ u.length ∧ opsQ P rq K (s.put dst (.str ((u.take b.toNat).drop a.toNat)))) := by simp [OpQ, zAg, zAa, opWp]
theorem o_ext {i : Nat} : OpS P (.ext i) [.tup ds] dst r K s = (i < ds.length ∧ opsWp P r K (s.put dst (ds.getD i .u0))) := by simp [OpS, OcWp, zAa, isPan, opWp]
theorem p_ext {i : Nat} : OpQ P (.ext i) [.tup ds] dst rq K s = (i < ds.length ∧ opsQ P rq K (s.put dst (ds.getD i .u0))) := by simp [OpQ, zAg, zAa, opWp]
theorem o_lenA {n : Nat} : OpS P (.lenA n) ds dst r K s = opsWp P r K (s.put dst (.int .i64 n)) := by simp [OpS, OcWp, zAa, isPan, opWp]
theorem p_lenA {n : Nat} : OpQ P (.lenA n) ds dst rq K s = opsQ P rq K (s.put dst (.int .i64 n)) := by simp [OpQ, zAg, zAa, opWp]
theorem o_lenS {u : List UInt8} : OpS P .lenS [.str u] dst r K s = opsWp P r K (s.put dst (.int .i64 u.length)) := by simp [OpS, OcWp, zAa, isPan, opWp]
theorem p_lenS {u : List UInt8} : OpQ P .lenS [.str u] dst rq K s = opsQ P rq K (s.put dst (.int .i64 u.length)) := by simp [OpQ, zAg, zAa, opWp]
theorem o_lenL {es : List D} {own : Own} : OpS P .lenL [.slice es own] dst r K s = opsWp P r K (s.put dst (.int .i64 es.length)) := by simp [OpS, OcWp, zAa, isPan, opWp]
theorem p_lenL {es : List D} {own : Own} : OpQ P .lenL [.slice es own] dst rq K s = opsQ P rq K (s.put dst (.int .i64 es.length)) := by simp [OpQ, zAg, zAa, opWp]
theorem o_lenN : OpS P .lenL [.lit (.slice none 0 0)] dst r K s = opsWp P r K (s.put dst (.int .i64 0)) := by simp [OpS, OcWp, zAa, isPan, opWp]
theorem p_lenN : OpQ P .lenL [.lit (.slice none 0 0)] dst rq K s = opsQ P rq K (s.put dst (.int .i64 0)) := by simp [OpQ, zAg, zAa, opWp]
theorem o_min : OpS P .minI (.int k a :: ds) dst r K s = MmS P k (foldI (fun a b => if b < a then b else a) k a ds) dst r K s := by simp [OpS, OcWp, zAa, isPan, opWp, mmWp, MmS]
theorem p_min : OpQ P .minI (.int k a :: ds) dst rq K s = MmQ P k (foldI (fun a b => if b < a then b else a) k a ds) dst rq K s := by simp [OpQ, zAg, zAa, opWp, mmWp, MmQ]
theorem o_minS {a b : List UInt8} : OpS P .minI [.str a, .str b] dst r K s = opsWp P r K (s.put dst (.str (if Op.bytesLess a b || a == b then a else b))) := by simp [OpS, OcWp, zAa, isPan, opWp, mmWp]
theorem o_maxS {a b : List UInt8} : OpS P .maxI [.str a, .str b] dst r K s = opsWp P r K (s.put dst (.str (if Op.bytesLess a b then b else a))) := by simp [OpS, OcWp, zAa, isPan, opWp, mmWp]
attribute [go_sem] o_minS o_maxS
theorem o_max : OpS P .maxI (.int k a :: ds) dst r K s = MmS P k (foldI (fun a b => if b > a then b else a) k a ds) dst r K s := by simp [OpS, OcWp, zAa, isPan, opWp, mmWp, MmS]
theorem p_max : OpQ P .maxI (.int k a :: ds) dst rq K s = MmQ P k (foldI (fun a b => if b > a then b else a) k a ds) dst rq K s := by simp [OpQ, zAg, zAa, opWp, mmWp, MmQ]
theorem q_mmS : MmS P k (some a) dst r K s = opsWp P r K (s.put dst (.int k a)) := by simp [MmS]
theorem q_mmQ : MmQ P k (some a) dst rq K s = opsQ P rq K (s.put dst (.int k a)) := by simp [MmQ]
theorem o_mkI {t : Nat} : OpS P (.mkI t) [x] dst r K s = opsWp P r K (s.put dst (.iface t x)) := by simp [OpS, OcWp, zAa, isPan, opWp]
theorem p_mkI {t : Nat} : OpQ P (.mkI t) [x] dst rq K s = opsQ P rq K (s.put dst (.iface t x)) := by simp [OpQ, zAg, zAa, opWp]
theorem o_mkF {f : Fn} {n : Nat} : OpS P (.mkF f n) ds dst r K s = opsWp P r K (s.put dst (.fn f (ds.take n) (ds.drop n))) := by simp [OpS, OcWp, zAa, isPan, opWp]
theorem p_mkF {f : Fn} {n : Nat} : OpQ P (.mkF f n) ds dst rq K s = opsQ P rq K (s.put dst (.fn f (ds.take n) (ds.drop n))) := by simp [OpQ, zAg, zAa, opWp]
theorem o_cvS {u : List UInt8} : OpS P .cvS [.str u] dst r K s = opsWp P r K (s.put dst (.str u)) := by simp [OpS, OcWp, zAa, isPan, opWp]
theorem p_cvS {u : List UInt8} : OpQ P .cvS [.str u] dst rq K s = opsQ P rq K (s.put dst (.str u)) := by simp [OpQ, zAg, zAa, opWp]
theorem o_lenM {bk n off len cap : Nat} : OpS P .lenL [.sl bk n off len cap] dst r K s = opsWp P r K (s.put dst (.int .i64 len)) := by simp [OpS, OcWp, zAa, isPan, opWp]
theorem p_lenM {bk n off len cap : Nat} : OpQ P .lenL [.sl bk n off len cap] dst rq K s = opsQ P rq K (s.put dst (.int .i64 len)) := by simp [OpQ, zAg, zAa, opWp]
theorem o_lenG {t n : Nat} : OpS P .lenL [.gs t n] dst r K s = opsWp P r K (s.put dst (.int .i64 n)) := by simp [OpS, OcWp, zAa, isPan, opWp]
theorem p_lenG {t n : Nat} : OpQ P .lenL [.gs t n] dst rq K s = opsQ P rq K (s.put dst (.int .i64 n)) := by simp [OpQ, zAg, zAa, opWp]
theorem o_ixaM {n bk n' off len cap : Nat} : OpS P (.ixaS n) [.sl bk n' off len cap, .int k a] dst r K s = (0 ≤ a ∧ a < len ∧ len ≤ cap ∧ n' = n ∧ opsWp P r K (s.put dst (.ptr bk (off + a.toNat * n)))) := by simp [OpS, OcWp, zAa, isPan, opWp]
theorem p_ixaM {n bk n' off len cap : Nat} : OpQ P (.ixaS n) [.sl bk n' off len cap, .int k a] dst rq K s = (0 ≤ a ∧ a < len ∧ len ≤ cap ∧ n' = n ∧ opsQ P rq K (s.put dst (.ptr bk (off + a.toNat * n)))) := by simp [OpQ, zAg, zAa, opWp]
theorem o_ixaG {n t m : Nat} : OpS P (.ixaS n) [.gs t m, .int k a] dst r K s = (0 ≤ a ∧ a < m ∧ opsWp P r K (s.put dst (.gp t m (a.toNat * n)))) := by simp [OpS, OcWp, zAa, isPan, opWp]
theorem p_ixaG {n t m : Nat} : OpQ P (.ixaS n) [.gs t m, .int k a] dst rq K s = (0 ≤ a ∧ a < m ∧ opsQ P rq K (s.put dst (.gp t m (a.toNat * n)))) := by simp [OpQ, zAg, zAa, opWp]
theorem o_fldg {off t m o : Nat} : OpS P (.fld off) [.gp t m o] dst r K s = opsWp P r K (s.put dst (.gp t m (o + off))) := by simp [OpS, OcWp, zAa, isPan, opWp]
theorem p_fldg {off t m o : Nat} : OpQ P (.fld off) [.gp t m o] dst rq K s = opsQ P rq K (s.put dst (.gp t m (o + off))) := by simp [OpQ, zAg, zAa, opWp]
theorem o_rng {u : List UInt8} : OpS P .rngS [.str u] dst r K s = opsWp P r K ({ s with hp := { s.hp with H := s.hp.H ++ [Blk.siter u 0] } }.put dst (.ptr s.hp.H.length 0)) := by simp [OpS, OcWp, zAa, isPan, opWp]
theorem o_ldg {ag : Bool} {n t m off : Nat} : OpS P (.ld ag n) [.gp t m off] dst r K s = LgS P ag n (s.hp.tk[t]?) m off dst r K s := by simp [OpS, OcWp, zAa, isPan, opWp, LgS]
theorem p_ldg {ag : Bool} {n t m off : Nat} : OpQ P (.ld ag n) [.gp t m off] dst rq K s = LgQ P ag n (s.hp.tk[t]?) m off dst rq K s := by simp [OpQ, zAg, zAa, opWp, LgQ]
theorem q_lgST {n k' m off : Nat} {cs : List D} : LgS P true n (some (.chg k' cs)) m off dst r K s = (cs.length = m * k' ∧ off + n ≤ cs.length ∧ opsWp P r K (s.put dst (.agg ((cs.drop off).take n)))) := by
 simp only [LgS, Option.some.injEq, Tv.chg.injEq, if_true]
 exact propext ⟨fun ⟨_, _, ⟨h1, h2⟩, h3, h4, h5⟩ => by subst h1; subst h2; exact ⟨h3, h4, h5⟩, fun ⟨h3, h4, h5⟩ => ⟨_, _, ⟨rfl, rfl⟩, h3, h4, h5⟩⟩
theorem q_lgSF {n k' m off : Nat} {cs : List D} : LgS P false n (some (.chg k' cs)) m off dst r K s = (cs.length = m * k' ∧ off + n ≤ cs.length ∧ opsWp P r K (s.put dst (cs.getD off .u0))) := by
 simp only [LgS, Option.some.injEq, Tv.chg.injEq, Bool.false_eq_true, if_false]
 exact propext ⟨fun ⟨_, _, ⟨h1, h2⟩, h3, h4, h5⟩ => by subst h1; subst h2; exact ⟨h3, h4, h5⟩, fun ⟨h3, h4, h5⟩ => ⟨_, _, ⟨rfl, rfl⟩, h3, h4, h5⟩⟩
theorem q_lgQT {n k' m off : Nat} {cs : List D} : LgQ P true n (some (.chg k' cs)) m off dst rq K s = (cs.length = m * k' ∧ off + n ≤ cs.length ∧ opsQ P rq K (s.put dst (.agg ((cs.drop off).take n)))) := by
 simp only [LgQ, Option.some.injEq, Tv.chg.injEq, if_true]
 exact propext ⟨fun ⟨_, _, ⟨h1, h2⟩, h3, h4, h5⟩ => by subst h1; subst h2; exact ⟨h3, h4, h5⟩, fun ⟨h3, h4, h5⟩ => ⟨_, _, ⟨rfl, rfl⟩, h3, h4, h5⟩⟩
theorem q_lgQF {n k' m off : Nat} {cs : List D} : LgQ P false n (some (.chg k' cs)) m off dst rq K s = (cs.length = m * k' ∧ off + n ≤ cs.length ∧ opsQ P rq K (s.put dst (cs.getD off .u0))) := by
 simp only [LgQ, Option.some.injEq, Tv.chg.injEq, Bool.false_eq_true, if_false]
 exact propext ⟨fun ⟨_, _, ⟨h1, h2⟩, h3, h4, h5⟩ => by subst h1; subst h2; exact ⟨h3, h4, h5⟩, fun ⟨h3, h4, h5⟩ => ⟨_, _, ⟨rfl, rfl⟩, h3, h4, h5⟩⟩
theorem o_stg {n t m off : Nat} : OpS P (.st n) [.gp t m off, x] dst r K s = SgS P n (s.hp.tk[t]?) t m off x dst r K s := by simp [OpS, OcWp, zAa, isPan, opWp, SgS]
theorem q_sgS {n t m off k' : Nat} {cs : List D} : SgS P n (some (.chg k' cs)) t m off x dst r K s = (cs.length = m * k' ∧ x.iV = true ∧ x.cells.length = n ∧ off + n ≤ cs.length ∧ opsWp P r K ({ s with hp := { s.hp with tk := s.hp.tk.set t (.chg k' (setL cs off x.cells)) } }.put dst .skip)) := by
 simp only [SgS, Option.some.injEq, Tv.chg.injEq]
 exact propext ⟨fun ⟨_, _, ⟨h1, h2⟩, h3⟩ => by subst h1; subst h2; exact h3, fun h3 => ⟨_, _, ⟨rfl, rfl⟩, h3⟩⟩
section
variable {es xs : List D} {n bytes : Nat} {ety : TypeId}
theorem s_bsl (he : zAj n ds = true) (hl : ds.length * n ≤ 16777216) (hc : D.cL ds = true) (h : opsWp P r K (s.put dst (.slice (D.erL ds) .full))) : OpS P (.bsl n) ds dst r K s := by
 simp only [OpS, OcWp, zAa, isPan, Bool.false_eq_true, if_false, opWp]; exact ⟨he, hl, .inl ⟨hc, h⟩⟩
theorem t_bsl (he : zAj n ds = true) (hl : ds.length * n ≤ 16777216) (hc : D.cL ds = true) (h : opsQ P rq K (s.put dst (.slice (D.erL ds) .full))) : OpQ P (.bsl n) ds dst rq K s := by
 simp only [OpQ, zAg, zAa, Bool.false_eq_true, if_false, opWp]; exact ⟨he, hl, .inl ⟨hc, by trivial, h⟩⟩
theorem zAp {t : Nat} (he : zBq s.hp n x = some es) (hK : zAj n es = true) (hc : D.cL es = true) (hr : zCl (xs.length + es.length) bytes) (hV : s.hp.tk[t]? = some (.per n xs.length))
 (h : opsWp P r K ({ s with hp := { s.hp with tk := s.hp.tk.set t (.per n (xs.length + es.length)) } }.put dst (.slice (xs ++ D.erL es) (.tok t)))) : OpS P (.app n bytes ety) [.slice xs (.tok t), x] dst r K s := by
 simp only [OpS, OcWp, zAa, isPan, Bool.false_eq_true, if_false, opWp]; exact ⟨es, he, hK, hr, hc, hV, h⟩
theorem zAq {t m : Nat} {cs : List D} (he : zBq s.hp n x = some es) (hK : zAj n es = true) (hr : zCl (m + es.length) bytes) (hV : s.hp.tk[t]? = some (.chg n cs)) (hl : cs.length = m * n)
 (h : opsWp P r K ({ s with hp := { s.hp with tk := s.hp.tk.set t (.chg n (cs ++ flatD es)) } }.put dst (.gs t (m + es.length)))) : OpS P (.app n bytes ety) [.gs t m, x] dst r K s := by
 simp only [OpS, OcWp, zAa, isPan, Bool.false_eq_true, if_false, opWp]; exact ⟨es, he, hK, hr, .inl ⟨cs, hV, hl, h⟩⟩
theorem s_appB {t m : Nat} {bs u : List UInt8} (he : zBq s.hp n x = some es) (hu : zC3 es = some u) (hK : zAj n es = true) (hn : n = 1) (hr : zCl (m + es.length) bytes) (hV : s.hp.tk[t]? = some (.byt ety bs)) (hl : bs.length = m)
 (h : opsWp P r K ({ s with hp := { s.hp with tk := s.hp.tk.set t (.byt ety (bs ++ u)) } }.put dst (.gs t (m + es.length)))) : OpS P (.app n bytes ety) [.gs t m, x] dst r K s := by
 simp only [OpS, OcWp, zAa, isPan, Bool.false_eq_true, if_false, opWp]; exact ⟨es, he, hK, hr, .inr ⟨bs, u, hn, hV, hl, hu, h⟩⟩
theorem s_appS {t m : Nat} {bs u : List UInt8} (hr : zCl (m + u.length) bytes) (hV : s.hp.tk[t]? = some (.byt ety bs)) (hl : bs.length = m)
 (h : opsWp P r K ({ s with hp := { s.hp with tk := s.hp.tk.set t (.byt ety (bs ++ u)) } }.put dst (.gs t (m + u.length)))) : OpS P (.app 1 bytes ety) [.gs t m, .str u] dst r K s := by
 have hb : ∀ u : List UInt8, zC3 (u.map fun b => D.int .u8 b.toNat) = some u := by
  intro u
  induction u with
  | nil => rfl
  | cons b u ih =>
    have : b.toNat < 256 := UInt8.toNat_lt b
    simp only [List.map_cons, zC3, ih]
    rw [if_pos ⟨by omega, by omega⟩]
    congr 2
    apply UInt8.toNat_inj.1
    rw [UInt8.toNat_ofNat']; simp
 have hk : ∀ u : List UInt8, zAj 1 (u.map fun b => D.int .u8 b.toNat) = true := by
  intro u
  induction u with
  | nil => rfl
  | cons b u ih => simp [zAj, D.iV, D.cells, ih]
 refine s_appB (es := u.map fun b => D.int .u8 b.toNat) rfl (hb u) (hk u) rfl (by simpa using hr) hV hl ?_
 simpa using h
theorem zAs (he : zBq s.hp n x = some es) (hK : zAj n es = true) (hc : D.cL es = true) (hr : zCl es.length bytes) (h : opsWp P r K (s.put dst (.slice (D.erL es) .no))) : OpS P (.app n bytes ety) [.lit (.slice none 0 0), x] dst r K s := by
 simp only [OpS, OcWp, zAa, isPan, Bool.false_eq_true, if_false, opWp]; exact ⟨es, he, hK, hr, .inl ⟨hc, .inl h⟩⟩
theorem zAr (he : zBq s.hp n x = some es) (hK : zAj n es = true) (hc : D.cL es = true) (hr : zCl (xs.length + es.length) bytes) (hx : zAj n xs = true) (hn : 0 < n) (h : opsWp P r K (s.put dst (.slice (xs ++ D.erL es) .no))) : OpS P (.app n bytes ety) [.slice xs .full, x] dst r K s := by
 simp only [OpS, OcWp, zAa, isPan, Bool.false_eq_true, if_false, opWp]; exact ⟨es, he, hK, hr, .inl ⟨hc, hx, hn, .inl h⟩⟩
theorem zA9 {own : Own} (hx : zAj n xs = true) (h : opsWp P r K (s.put dst (.slice xs .no))) : OpS P (.slcL n false false) [.slice xs own] dst r K s := by
 simp only [OpS, OcWp, zAa, isPan, Bool.false_eq_true, if_false, opWp]
 exact ⟨0, xs.length, ⟨rfl, rfl⟩, by omega, by omega, by simp [dlen], hx, by simpa using h⟩
theorem zA7 {own : Own} (h0 : 0 ≤ a) (h1 : a ≤ xs.length) (hx : zAj n xs = true) (h : opsWp P r K (s.put dst (.slice (xs.drop a.toNat) .no))) : OpS P (.slcL n true false) [.slice xs own, .int k a] dst r K s := by
 simp only [OpS, OcWp, zAa, isPan, Bool.false_eq_true, if_false, opWp]
 exact ⟨a, xs.length, ⟨rfl, rfl⟩, h0, h1, by simp [dlen], hx, by simpa using h⟩
theorem zA8 {own : Own} (h0 : 0 ≤ a) (h1 : a ≤ xs.length) (hx : zAj n xs = true) (h : opsWp P r K (s.put dst (.slice (xs.take a.toNat) .no))) : OpS P (.slcL n false true) [.slice xs own, .int k a] dst r K s := by
 simp only [OpS, OcWp, zAa, isPan, Bool.false_eq_true, if_false, opWp]
 exact ⟨0, a, ⟨rfl, rfl⟩, by omega, h0, by simpa [dlen] using h1, hx, by simpa using h⟩
theorem zA6 {own : Own} (h0 : 0 ≤ a) (h1 : a ≤ b) (h2 : b ≤ xs.length) (hx : zAj n xs = true) (h : opsWp P r K (s.put dst (.slice ((xs.take b.toNat).drop a.toNat) .no))) : OpS P (.slcL n true true) [.slice xs own, .int k a, .int k' b] dst r K s := by
 simp only [OpS, OcWp, zAa, isPan, Bool.false_eq_true, if_false, opWp]
 exact ⟨a, b, ⟨rfl, rfl⟩, h0, h1, by simpa [dlen] using h2, hx, h⟩
theorem zA4 {bk off len cap : Nat} (h0 : 0 ≤ a) (h1 : a ≤ len) (hc : len ≤ cap) (h : opsWp P r K (s.put dst (.sl bk n (off + a.toNat * n) (len - a.toNat) (cap - a.toNat)))) : OpS P (.slcL n true false) [.sl bk n off len cap, .int k a] dst r K s := by
 simp only [OpS, OcWp, zAa, isPan, Bool.false_eq_true, if_false, opWp]
 exact ⟨a, len, ⟨rfl, rfl⟩, h0, h1, by simp [dlen], trivial, hc, by simpa using h⟩
theorem zA5 {bk off len cap : Nat} (h0 : 0 ≤ a) (h1 : a ≤ len) (hc : len ≤ cap) (h : opsWp P r K (s.put dst (.sl bk n off a.toNat cap))) : OpS P (.slcL n false true) [.sl bk n off len cap, .int k a] dst r K s := by
 simp only [OpS, OcWp, zAa, isPan, Bool.false_eq_true, if_false, opWp]
 exact ⟨0, a, ⟨rfl, rfl⟩, by omega, h0, by simpa [dlen] using h1, trivial, hc, by simpa using h⟩
theorem zA3 {bk off len cap : Nat} (h0 : 0 ≤ a) (h1 : a ≤ b) (h2 : b ≤ len) (hc : len ≤ cap) (h : opsWp P r K (s.put dst (.sl bk n (off + a.toNat * n) (b.toNat - a.toNat) (cap - a.toNat)))) : OpS P (.slcL n true true) [.sl bk n off len cap, .int k a, .int k' b] dst r K s := by
 simp only [OpS, OcWp, zAa, isPan, Bool.false_eq_true, if_false, opWp]
 exact ⟨a, b, ⟨rfl, rfl⟩, h0, h1, by simpa [dlen] using h2, trivial, hc, h⟩
theorem o_eff {f : FuncId} {first cap ds' : List D} {hp0 : Hp} {R : D → Hp → Prop} (bl tl : List Nat) (h : Eff P f ds' hp0 R) (hs : SelOk s.hp bl tl) (hd : D.rnL (posF bl) (posF tl) (first ++ ds ++ cap) = ds') (hh : s.hp.sel bl tl = hp0)
 (hk : ∀ d hp1, R d hp1 → opsWp P r K ({ s with hp := s.hp.back bl tl hp1 }.put dst (d.rn (bakF bl s.hp.H.length) (bakF tl s.hp.tk.length)))) : OpS P .call (.fn (.func f) first cap :: ds) dst r K s := by
 unfold OpS OcWp
 simp only [zAa, if_true]
 exact zD9 bl tl h hs hd hh hk
end
theorem zAb {f : FuncId} {first cap : List D} {d : D} {ds' : List D} (h : Pur P f ds' d) (he : D.erL (first ++ ds ++ cap) = ds') (hc : D.cL (first ++ ds ++ cap) = true) (hk : opsWp P r K (s.put dst d)) :
 OpS P .call (.fn (.func f) first cap :: ds) dst r K s := by
 unfold OpS OcWp
 simp only [zAa, if_true]
 exact call_pur hc (he ▸ h) hk
theorem zAl {f : FuncId} {first cap : List D} {d : D} {ds' : List D} (h : Pur P f ds' d) (he : D.erL (first ++ ds ++ cap) = ds') (hc : D.cL (first ++ ds ++ cap) = true) (hk : opsQ P rq K (s.put dst d)) :
 OpC P .call (.fn (.func f) first cap :: ds) dst rq K s := by
 unfold OpC detWp OcWp
 simp only [zAa, if_true]
 exact ⟨d, s.hp, call_pur hc (he ▸ h) ⟨rfl, rfl⟩, hk⟩
theorem c_eff {f : FuncId} {first cap ds' : List D} {hp0 hp1 : Hp} {d : D} (bl tl : List Nat) (h : Eff P f ds' hp0 fun d' hp' => d' = d ∧ hp' = hp1) (hs : SelOk s.hp bl tl) (hd : D.rnL (posF bl) (posF tl) (first ++ ds ++ cap) = ds') (hh : s.hp.sel bl tl = hp0)
 (hk : opsQ P rq K ({ s with hp := s.hp.back bl tl hp1 }.put dst (d.rn (bakF bl s.hp.H.length) (bakF tl s.hp.tk.length)))) : OpC P .call (.fn (.func f) first cap :: ds) dst rq K s := by
 unfold OpC detWp OcWp
 simp only [zAa, if_true]
 exact ⟨_, _, zD9 bl tl h hs hd hh (by rintro d' hp' ⟨rfl, rfl⟩; exact ⟨rfl, rfl⟩), hk⟩
theorem zAk {f : FuncId} {first cap : List D} {d : D} {ds' : List D} (h : Pur P f ds' d) (he : D.erL (first ++ ds ++ cap) = ds') (hc : D.cL (first ++ ds ++ cap) = true) (hk : opsQ P rq K (s.put dst d)) :
 OpQ P .call (.fn (.func f) first cap :: ds) dst rq K s := by
 unfold OpQ zAg CallQ
 simp only [zAa, if_true]
 exact ⟨d, call_pur hc (he ▸ h) ⟨rfl, rfl⟩, hk⟩
end
section
variable {P : Mod} {oc : OC} {args : List Opd} {dst : Dst} {r : List RO} {rq : List (RO × Bool)} {qf : Bool} {K : St → Prop} {s : St} {g : Opd} {want : Bool} {C : Cfg} {Q : Ex → St → Prop} {x y : RC}
def CdS (C : Cfg) (b : D) (g : Opd) (x y : RC) (Q : Ex → St → Prop) (s : St) : Prop :=
 match b with
 | .bool t => (t = true → SWp C x Q (s.setO g (.bool true))) ∧ (t = false → SWp C y Q (s.setO g (.bool false)))
 | _ => False
theorem swp_cd (h : CdS C (s.get g) g x y Q s) : SWp C (.cond g x y) Q s := by
 unfold CdS at h
 split at h
 ·rename_i t ht; exact swp_cond ht h.1 h.2
 ·exact h.elim
theorem e_cdT : CdS C (.bool true) g x y Q s = SWp C x Q (s.setO g (.bool true)) := by simp [CdS]
theorem e_cdF : CdS C (.bool false) g x y Q s = SWp C y Q (s.setO g (.bool false)) := by simp [CdS]
theorem cd_split {c : Bool} (h1 : c = true → SWp C x Q (s.setO g (.bool true))) (h2 : c = false → SWp C y Q (s.setO g (.bool false))) : CdS C (.bool c) g x y Q s := ⟨h1, h2⟩
theorem rr_slot {o : Opd} {K : D → Prop} : rrWp (.slot o) s K = K (s.get o) := propext Iff.rfl
def RcS (ag : Bool) (n : Nat) (p : D) (H : List Blk) (K : D → Prop) : Prop :=
 match p with
 | .ptr b off => ∃ cs, H[b]? = some (.cells cs) ∧ off + n ≤ cs.length ∧ K (if ag then .agg ((cs.drop off).take n) else cs.getD off .u0)
 | _ => False
theorem rr_cell {o : Opd} {ag : Bool} {n : Nat} {K : D → Prop} : rrWp (.cell o ag n) s K = RcS ag n (s.get o) s.hp.H K := by
 unfold rrWp RcS; rfl
def RcB (ag : Bool) (n off : Nat) (B : Option Blk) (K : D → Prop) : Prop := ∃ cs, B = some (.cells cs) ∧ off + n ≤ cs.length ∧ K (if ag then .agg ((cs.drop off).take n) else cs.getD off .u0)
theorem rr_ptr {ag : Bool} {n b off : Nat} {H : List Blk} {K : D → Prop} : RcS ag n (.ptr b off) H K = RcB ag n off (H[b]?) K := propext Iff.rfl
theorem rr_T {n off : Nat} {cs : List D} {K : D → Prop} : RcB true n off (some (.cells cs)) K = (off + n ≤ cs.length ∧ K (.agg ((cs.drop off).take n))) := by simp [RcB]
theorem rr_F {n off : Nat} {cs : List D} {K : D → Prop} : RcB false n off (some (.cells cs)) K = (off + n ≤ cs.length ∧ K (cs.getD off .u0)) := by simp [RcB]
theorem rs_nil {K : List D → Prop} : rrsWp [] s K = K [] := propext Iff.rfl
theorem rs_cons {r : RR} {rs : List RR} {K : List D → Prop} : rrsWp (r :: rs) s K = rrWp r s fun d => rrsWp rs s fun ds => K (d :: ds) := propext Iff.rfl
end
theorem w64 {n : Int} (h1 : -9223372036854775808 ≤ n) (h2 : n ≤ 9223372036854775807) : IntKind.i64.wrap n = n := by
 rw [IntKind.wrap_i64]
 omega
attribute [go_sem] o_cvS p_cvS o_lenM p_lenM o_lenG p_lenG o_ixaM p_ixaM o_ixaG p_ixaG o_fldg p_fldg o_rng o_ldg p_ldg q_lgST q_lgSF q_lgQT q_lgQF o_stg q_sgS
attribute [go_sem] f_stepD zAa qOp
attribute [go_sem] decide_true decide_false o_eqN n_nil n_emp n_cons n_sl e_nil e_step e_guard f_nil f_step f_guard g_tt g_tf g_ft g_ff g_sk h_tt h_tf h_ft h_ff h_sk o_mv p_mv o_pickT o_pickF p_pickT p_pickF o_add o_sub o_mul o_quo o_rem o_and o_or o_xor o_shl o_shr o_eql o_neq o_lss o_leq o_gtr o_geq p_add p_sub p_mul p_quo p_rem p_eql p_neq p_lss p_leq p_gtr p_geq o_cat o_seq o_sne o_slt p_cat p_seq p_sne p_slt o_beqF o_beqT p_beqF p_beqT o_eqA p_eqA q_eqSF q_eqST q_eqQF q_eqQT o_neg p_neg o_not p_not o_cvI p_cvI o_newb o_box o_bld p_bld q_blS q_blQ o_ldp p_ldp o_nckP p_nckP o_nckI p_nckI o_nckG p_nckG o_nckM p_nckM nckOk_some true_and q_ldST q_ldSTt q_ldSFt q_ldQTt q_ldQFt q_stSt o_newT q_ldSF q_ldQT q_ldQF o_ldiT o_ldiF p_ldiT p_ldiF o_stp q_stS o_fldp p_fldp o_fldi p_fldi o_fvT o_fvF p_fvT p_fvF o_ixaA p_ixaA o_ixaS p_ixaS o_ixvS p_ixvS o_slTF p_slTF o_slFT p_slFT o_slTT p_slTT o_ext p_ext o_lenA p_lenA o_lenS p_lenS o_lenL p_lenL o_lenN p_lenN o_min p_min o_max p_max q_mmS q_mmQ o_mkI p_mkI o_mkF p_mkF e_cdT e_cdF rr_slot rr_cell rr_ptr rr_T rr_F rs_nil rs_cons
attribute [go_sem] St.get St.put St.setO setK St.done lk List.map_cons List.map_nil List.getD_cons_zero List.getD_cons_succ List.set_cons_zero List.set_cons_succ List.getElem?_cons_zero List.getElem?_cons_succ List.length_cons List.length_nil List.nil_append List.cons_append List.drop_zero List.drop_succ_cons List.take_zero List.take_succ_cons List.drop_nil List.take_nil D.iV D.cells fillL setL eqDs eqD foldI Nat.succ_eq_add_one Nat.le_refl Nat.zero_add Nat.add_zero Int.toNat_natCast ite_true ite_false ne_eq not_false_eq_true not_true_eq_false true_and and_true and_self Bool.false_eq_true Bool.not_true Bool.not_false Bool.and_true Bool.true_and decide_eq_true_eq zAn D.closed D.cL D.er D.erL D.rn D.rnL Own.rn Blk.rn Tv.rn Blk.rnL Tv.rnL Hp.back Hp.sel putAt posF bakF idx flatD zeros
section
variable {P P' : Mod} {C : Cfg} {oc : OC} {args : List Opd} {dst : Dst} {r : List RO} {rq : List (RO × Bool)} {qf : Bool} {K : St → Prop} {s s' : St} {g : Opd} {want ag neg : Bool} {x y : RC} {b b' : D} {ds ds' : List D} {B B' : Option Blk} {off off' n bk bk' : Nat} {v v' : D} {k : IntKind} {Q : Ex → St → Prop}
/- Where simp looks: at the program, the values and the state; never at the code that is still to come. -/
@[congr] theorem cg_ops (h1 : P = P') (h2 : s = s') : opsWp P r K s = opsWp P' r K s' := by rw [h1, h2]
@[congr] theorem cg_opsQ (h1 : P = P') (h2 : s = s') : opsQ P rq K s = opsQ P' rq K s' := by rw [h1, h2]
@[congr] theorem cg_OpS (h1 : P = P') (h2 : ds = ds') (h3 : s = s') : OpS P oc ds dst r K s = OpS P' oc ds' dst r K s' := by rw [h1, h2, h3]
@[congr] theorem cg_OpC (h1 : P = P') (h2 : ds = ds') (h3 : s = s') : OpC P oc ds dst rq K s = OpC P' oc ds' dst rq K s' := by rw [h1, h2, h3]
@[congr] theorem cg_OpQ (h1 : P = P') (h2 : ds = ds') (h3 : s = s') : OpQ P oc ds dst rq K s = OpQ P' oc ds' dst rq K s' := by rw [h1, h2, h3]
@[congr] theorem cg_GdS (h1 : P = P') (h2 : b = b') (h3 : s = s') : GdS P b g want dst oc args r K s = GdS P' b' g want dst oc args r K s' := by rw [h1, h2, h3]
@[congr] theorem cg_GdQ (h1 : P = P') (h2 : b = b') (h3 : s = s') : GdQ P qf b g want dst oc args rq K s = GdQ P' qf b' g want dst oc args rq K s' := by rw [h1, h2, h3]
@[congr] theorem cg_CdS (h2 : b = b') (h3 : s = s') : CdS C b g x y Q s = CdS C b' g x y Q s' := by rw [h2, h3]
@[congr] theorem cg_SWp (h3 : s = s') : SWp C x Q s = SWp C x Q s' := by rw [h3]
@[congr] theorem cg_LdS (h1 : P = P') (h2 : B = B') (h4 : off = off') (h3 : s = s') : LdS P ag n B off dst r K s = LdS P' ag n B' off' dst r K s' := by rw [h1, h2, h3, h4]
@[congr] theorem cg_LdQ (h1 : P = P') (h2 : B = B') (h4 : off = off') (h3 : s = s') : LdQ P ag n B off dst rq K s = LdQ P' ag n B' off' dst rq K s' := by rw [h1, h2, h3, h4]
@[congr] theorem cg_StS (h1 : P = P') (h2 : B = B') (h5 : bk = bk') (h4 : off = off') (h6 : v = v') (h3 : s = s') : StS P n B bk off v dst r K s = StS P' n B' bk' off' v' dst r K s' := by rw [h1, h2, h3, h4, h5, h6]
@[congr] theorem cg_LgS {V V' : Option Tv} {m m' : Nat} (h1 : P = P') (h2 : V = V') (h5 : m = m') (h4 : off = off') (h3 : s = s') : LgS P ag n V m off dst r K s = LgS P' ag n V' m' off' dst r K s' := by rw [h1, h2, h3, h4, h5]
@[congr] theorem cg_LgQ {V V' : Option Tv} {m m' : Nat} (h1 : P = P') (h2 : V = V') (h5 : m = m') (h4 : off = off') (h3 : s = s') : LgQ P ag n V m off dst rq K s = LgQ P' ag n V' m' off' dst rq K s' := by rw [h1, h2, h3, h4, h5]
@[congr] theorem cg_SgS {V V' : Option Tv} {m m' : Nat} (h1 : P = P') (h2 : V = V') (h5 : bk = bk') (h7 : m = m') (h4 : off = off') (h6 : v = v') (h3 : s = s') : SgS P n V bk m off v dst r K s = SgS P' n V' bk' m' off' v' dst r K s' := by rw [h1, h2, h3, h4, h5, h6, h7]
end
end GoV
end
section
set_option linter.unusedSimpArgs false
namespace GoV
open Go Go.RowKit
def varMod (P : Program) (gs : List (Nat × (Array Value → Prop))) : Mod where
 P := P
 amb := fun w r => ∀ p ∈ gs, p.1 ∉ r ∧ ∃ cs e fr, p.2 cs ∧ w.heap[p.1]? = some (.cells cs e fr)
 up := by
  intro w r w' r' h k hr p hp
  obtain ⟨h1, cs, e, fr, h3, h2⟩ := h p hp
  have hlt : p.1 < w.heap.size := by
   rcases Nat.lt_or_ge p.1 w.heap.size with g | g
   ·exact g
   ·rw [Array.getElem?_eq_none g] at h2; cases h2
  refine ⟨fun hm => ?_, cs, e, fr, h3, ?_⟩
  ·rcases hr _ hm with g | g
   ·exact h1 g
   ·omega
  ·rw [k.block _ hlt h1]; exact h2
theorem var_of {P : Program} {gs : List (Nat × (Array Value → Prop))} {w : World} {r : List Nat} (h : (varMod P gs).amb w r) {g : Nat} {p : Array Value → Prop} (hm : (g, p) ∈ gs) : ∃ cs e fr, p cs ∧ w.heap[g]? = some (.cells cs e fr) :=
 (h _ hm).2
theorem tabIs_var {P : Program} {gs : List (Nat × (Array Value → Prop))} {w : World} {r : List Nat} {name : String} {g : Nat} {k : IntKind} {zs : List Int}
 (h : (varMod P gs).amb w r) (hg : P.globalNamed name = some g) (hm : (g, fun cs => cs = (zs.map fun z => Value.int k z).toArray) ∈ gs) : Lib.TabIs P w name k zs := by
 obtain ⟨cs, e, fr, h3, h2⟩ := var_of h hm
 subst h3
 unfold Lib.TabIs World.var?
 rw [hg]
 simp [h2]
theorem gh_nil {w : World} {g : Gh} (h : HeapRel w g ⟨[], []⟩) : g = ⟨[], [], g.I⟩ := by
 have a1 := h.len
 have a2 := h.lent
 obtain ⟨r, tk, I⟩ := g
 have b1 : r = [] := List.eq_nil_of_length_eq_zero a1.symm
 have b2 : tk = [] := List.eq_nil_of_length_eq_zero a2.symm
 subst b1; subst b2; rfl
theorem heap_nil {w : World} {I : Nat → Nat → Prop} (hI : ∀ b o, I b o → b < w.heap.size) : HeapRel w ⟨[], [], I⟩ ⟨[], []⟩ :=
 ⟨rfl, by simp, by simp, by simp, rfl, by simp, by simp, by simp [blks], fun b o h => ⟨hI b o h, by simp⟩⟩
theorem inv_below {w w' : World} {I I' : Nat → Nat → Prop} (h : HeapRel w ⟨[], [], I⟩ ⟨[], []⟩) (hb : Below w.heap.size w w') (h1 : ∀ b o, I b o → I' b o) (h2 : ∀ b o, I' b o → I b o ∨ (w.heap.size ≤ b ∧ b < w'.heap.size)) :
 Inv w ⟨[], [], I⟩ ⟨[], []⟩ w' ⟨[], [], I'⟩ := by
 refine ⟨heap_nil fun b o ho => ?_, ⟨fun b o ho => ⟨h1 b o ho, cell_of_heap (hb.block b (h.imm b o ho).1)⟩, by simp, by simp⟩, ⟨hb.os, hb.tape, hb.output, hb.size, fun b hb' _ => hb.block b hb'⟩, by simp, by simp [blks], fun b o ho => ?_⟩
 ·rcases h2 b o ho with q | q
  ·exact Nat.lt_of_lt_of_le (h.imm b o q).1 hb.size
  ·exact q.2
 ·rcases h2 b o ho with q | q
  ·exact .inl q
  ·exact .inr (.inl q.1)
theorem pur_extM {M : Mod} {f : FuncId} {args : List D} {d : D} {vs : List Value} (hc : zB7 M f) (ha : ∀ w g xs, RelL w g args xs → xs = vs)
 (h : ∀ w, M.amb w [] → Calls M.P f vs.toArray w fun e w' => ∃ v, e = .returned v ∧ Below w.heap.size w w' ∧
  ∀ I : Nat → Nat → Prop, ∃ I' : Nat → Nat → Prop, (∀ b o, I b o → I' b o) ∧ (∀ b o, I' b o → I b o ∨ (w.heap.size ≤ b ∧ b < w'.heap.size)) ∧ Rel w' ⟨[], [], I'⟩ d v) : Pur M f args d := by
 refine ⟨hc, fun w g xs hA hH hargs => ?_⟩
 have hg := gh_nil hH
 rw [hg] at hA hH ⊢
 rw [ha w _ xs hargs]
 refine (h w (by simpa [Gh.own, blks] using hA)).mono fun e w' hp => ?_
 obtain ⟨v, rfl, hb, hI⟩ := hp
 obtain ⟨I', h1, h2, h3⟩ := hI g.I
 exact ⟨v, d, ⟨[], []⟩, _, rfl, ⟨rfl, rfl⟩, inv_below hH hb h1 h2, h3⟩
theorem pur_ext {M : Mod} {f : FuncId} {args : List D} {d : D} {vs : List Value} {v : Value} (hc : zB7 M f) (ha : ∀ w g xs, RelL w g args xs → xs = vs) (hd : ∀ w g, Rel w g d v)
 (h : ∀ w, M.amb w [] → Calls M.P f vs.toArray w fun e w' => e = .returned v ∧ Below w.heap.size w w') : Pur M f args d := by
 refine pur_extM hc ha fun w hA => (h w hA).mono fun e w' hp => ?_
 obtain ⟨rfl, hb⟩ := hp
 exact ⟨v, rfl, hb, fun I => ⟨I, fun _ _ h => h, fun _ _ h => .inl h, hd _ _⟩⟩
theorem calls_of_pur {M : Mod} {f : FuncId} {args : List D} {d : D} (h : Pur M f args d) {w : World} (hA : M.amb w []) {xs : List Value} (hargs : RelL w ⟨[], [], fun b _ => b < w.heap.size⟩ args xs) :
 Calls M.P f xs.toArray w fun e w' => ∃ v g', e = .returned v ∧ Rel w' g' d v ∧ Below w.heap.size w w' := by
 refine (h.2 w ⟨[], [], fun b _ => b < w.heap.size⟩ xs (by simpa [Gh.own, blks] using hA) (heap_nil fun b o hb => hb) hargs).mono fun e w' hp => ?_
 obtain ⟨v, d', hp', g', rfl, ⟨rfl, rfl⟩, g3, g4⟩ := hp
 exact ⟨v, g', rfl, g4, g3.keeps.os, g3.keeps.tape, g3.keeps.output, g3.keeps.size, fun k hk => g3.keeps.block k hk (by simp [Gh.own, blks])⟩
open Go.Sort in
theorem below_grow {w : World} (k : Nat) (os : Array Obj) : Below w.heap.size w (grow (w.drewN k) os) :=
 ⟨rfl, rfl, rfl, by simp [grow, World.drewN], fun j hj => by
  show (w.heap ++ os)[j]? = w.heap[j]?
  rw [Array.getElem?_append_left hj]⟩
end GoV
end
section
namespace GoV
open Go
def St.keep (ks : List Nat) (s : St) : St := { s with env := keepE ks 0 s.env }
theorem zB6 {C : Cfg} {x : RC} {Q : Ex → St → Prop} {s : St} {α : Type} (ks : List Nat) (f : α → St) (inv : α → Prop) (μ : α → Nat) (a0 : α) (h0 : inv a0) (e0 : s.keep ks = f a0)
 (round : ∀ a, inv a → SWp C x (fun e s' => match e with | .normal => ∃ a', inv a' ∧ μ a' < μ a ∧ s'.keep ks = f a' | e => Q e s') (f a)) : SWp C (.loop x) Q s := by
 refine swp_loop (fun n t => ∃ a, inv a ∧ μ a = n ∧ t = f a) (μ a0) ⟨_, zFn ks, a0, h0, rfl, e0⟩ ?_
 rintro n t ⟨a, h1, rfl, rfl⟩
 refine zFs (round a h1) fun e s' hq => ?_
 cases e
 ·obtain ⟨a', g1, g2, g3⟩ := hq
  exact ⟨s', zAo, _, _, zFn ks, g2, a', g1, rfl, g3⟩
 all_goals exact ⟨s', zAo, hq⟩
def St.keepG (ks : List Nat) (n m : Nat) (s : St) : St := (s.keep ks).gc n m
theorem zD0 {C : Cfg} {x : RC} {Q : Ex → St → Prop} {s : St} {α : Type} (ks : List Nat) (n m : Nat) (hn : C.n0 ≤ n) (hm : C.m0 ≤ m) (f : α → St) (inv : α → Prop) (μ : α → Nat) (a0 : α) (h0 : inv a0) (e0 : s.keepG ks n m = f a0)
 (round : ∀ a, inv a → SWp C x (fun e s' => match e with | .normal => ∃ a', inv a' ∧ μ a' < μ a ∧ s'.keepG ks n m = f a' | e => Q e s') (f a)) : SWp C (.loop x) Q s := by
 have hw : ∀ s : St, Weak C s (s.keepG ks n m) := fun s => zEs (zFn ks) (zFc n m hn hm)
 refine swp_loop (fun n t => ∃ a, inv a ∧ μ a = n ∧ t = f a) (μ a0) ⟨_, hw s, a0, h0, rfl, e0⟩ ?_
 rintro k t ⟨a, h1, rfl, rfl⟩
 refine zFs (round a h1) fun e s' hq => ?_
 cases e
 ·obtain ⟨a', g1, g2, g3⟩ := hq
  exact ⟨s', zAo, _, _, hw s', g2, a', g1, rfl, g3⟩
 all_goals exact ⟨s', zAo, hq⟩
theorem w32 {n : Int} (h1 : -2147483648 ≤ n) (h2 : n ≤ 2147483647) : IntKind.i32.wrap n = n := by rw [IntKind.wrap_i32]; omega
theorem wu8 {n : Int} (h1 : 0 ≤ n) (h2 : n ≤ 255) : IntKind.u8.wrap n = n := by rw [IntKind.wrap_u8]; omega
theorem wu16 {n : Int} (h1 : 0 ≤ n) (h2 : n ≤ 65535) : IntKind.u16.wrap n = n := by
 have : IntKind.u16.wrap n = n % 65536 := by simp [IntKind.wrap, IntKind.bits, IntKind.signed]
 rw [this]; omega
theorem wu32 {n : Int} (h1 : 0 ≤ n) (h2 : n ≤ 4294967295) : IntKind.u32.wrap n = n := by rw [IntKind.wrap_u32]; omega
theorem wu64 {n : Int} (h1 : 0 ≤ n) (h2 : n ≤ 18446744073709551615) : IntKind.u64.wrap n = n := by
 have : IntKind.u64.wrap n = n % 18446744073709551616 := by simp [IntKind.wrap, IntKind.bits, IntKind.signed]
 rw [this]; omega
theorem lN1 {α : Type} {a : α} {l : List α} : (a :: l).length = l.length + 1 := List.length_cons
theorem lN2 {α : Type} : ([] : List α).length = 0 := List.length_nil
theorem lN3 {α : Type} {a b : List α} : (a ++ b).length = a.length + b.length := List.length_append
theorem lN4 {α β : Type} {f : α → β} {l : List α} : (l.map f).length = l.length := List.length_map f
theorem lN5 {α : Type} {n : Nat} {a : α} : (List.replicate n a).length = n := List.length_replicate
theorem lN6 {α : Type} {n : Nat} {l : List α} : (l.take n).length = min n l.length := List.length_take
theorem lN7 {α : Type} {n : Nat} {l : List α} : (l.drop n).length = l.length - n := List.length_drop
theorem lN : (∀ {α : Type} {a : α} {l : List α}, (a :: l).length = l.length + 1) ∧ (∀ {α : Type}, ([] : List α).length = 0) ∧ (∀ {α : Type} {a b : List α}, (a ++ b).length = a.length + b.length) ∧ (∀ {α β : Type} {f : α → β} {l : List α}, (l.map f).length = l.length) ∧ (∀ {α : Type} {n : Nat} {a : α}, (List.replicate n a).length = n) ∧ (∀ {α : Type} {n : Nat} {l : List α}, (l.take n).length = min n l.length) ∧ (∀ {α : Type} {n : Nat} {l : List α}, (l.drop n).length = l.length - n) := ⟨lN1, lN2, lN3, lN4, lN5, lN6, lN7⟩
end GoV
end
section
namespace GoV
open Go Go.RowKit Go.ChangeShapes
theorem keptBut_of_below {W W' : World} {may : MemPlace → Prop} (h : Below W.heap.size W W') : W.keptBut W' may := by
 refine ⟨h.os, h.output, fun i hi => ?_⟩
 rw [h.block i hi]
 split <;> simp_all
theorem post_of_below {P : Program} {H : Type} {enc : TypeId × Value → H} {f : Func} {s : ChangeSpec} {apart fresh handsOn again : Bool} {W W' : World} {args : Array Value} {v : Value} {ds gs : List (DataW H)} {before pa pv : List MemPlace}
 (hW : DataW.Whole enc P f.params.toList s.vars apart W args.toList ds gs before)
 (hres : ∀ (b : Nat) (sp : Nat → Bool) (hd : Bool), DataW.TrodAll enc P W' b sp hd f.resultTypes.toList (v.resultList f.resultTypes.size) (s.fn H (ds ++ gs)).results [])
 (hargs : ∀ sp : Nat → Bool, (∀ p ∈ before, sp p.block = true) → DataW.TrodAll enc P W' 0 sp true f.params.toList args.toList (s.fn H (ds ++ gs)).args pa)
 (hvars : ∀ sp : Nat → Bool, (∀ p ∈ before, sp p.block = true) → DataW.TrodVars enc P W' sp s.vars (s.fn H (ds ++ gs)).vars pv)
 (hps : before = pa ++ pv) (hb : Below W.heap.size W W')
 (hok : ∀ (j : Nat) (t : TypeId) (r : Value), f.resultTypes[j]? = some t → (v.resultList f.resultTypes.size)[j]? = some r → Value.okWide P W' .any 0 t r) :
 s.post enc P f apart fresh handsOn again W args v W' := by
 have hlt : ∀ p ∈ before, p.block < W.heap.size := fun p hp => hW.lt p hp
 have hold : ∀ p ∈ before, (fun b => decide (b < W.heap.size)) p.block = true := fun p hp => by simpa using hW.lt p hp
 refine ⟨ds, gs, before, [], pa, pv, hW, hres _ _ _, hargs _ hold, hvars _ hold, World.keptBut_mono (fun p hp => ⟨hp, ?_⟩) (keptBut_of_below (may := (· ∈ before)) hb), fun _ => ?_⟩
 ·rw [hps, List.mem_append] at hp
  exact Or.inr hp
 ·obtain ⟨_, _, _, _, _, hz, hn⟩ := hW
  refine ⟨hok, _, _, ([] ++ pa) ++ pv, ⟨[] ++ pa, pv, trodAll_append (hargs _ (fun _ _ => rfl)) (hres _ _ _), hvars _ (fun _ _ => rfl), rfl, ?_, ?_⟩, ?_⟩
  ·intro b off hp
   have hp' : MemPlace.cell b off ∈ before := by rw [hps]; simpa using hp
   have hl : b < W.heap.size := hlt _ hp'
   have e : W'.frozen? ⟨b, off, none⟩ = W.frozen? ⟨b, off, none⟩ := by
    simp only [World.frozen?, hb.block b hl]
   rw [e]
   exact hz b off hp'
  ·intro ha
   have := hn ha
   rw [hps] at this
   simpa using this
  ·intro p hp _
   rw [hps]
   simpa using hp
end GoV
end
section
set_option linter.unusedSimpArgs false
set_option linter.unusedVariables false
set_option maxHeartbeats 1000000
namespace GoV
open Go
def noCells : Obj → Bool
 | .cells .. => false
 | _ => true
structure Turn (w w' : World) (D : Nat) : Prop where
 os : w'.os = w.os
 tape : w'.tape = w.tape
 output : w'.output = w.output
 size : w'.heap.size = w.heap.size
 block : ∀ b, b ≠ D → w'.heap[b]? = w.heap[b]?
 cell : ∀ o, w'.cell? ⟨D, o, none⟩ = w.cell? ⟨D, o, none⟩
theorem cell_noCells {w : World} {D : Nat} {o : Obj} (h : w.heap[D]? = some o) (ho : noCells o = true) (i : Nat) : w.cell? ⟨D, i, none⟩ = none := by
 unfold World.cell?
 simp only [h]
 cases o <;> simp_all [noCells]
theorem Turn.put {w : World} {D : Nat} {o o' : Obj} (h : w.heap[D]? = some o) (h1 : noCells o = true) (h2 : noCells o' = true) : Turn w (w.putObj D o') D := by
 have hlt : D < w.heap.size := (Array.getElem?_eq_some_iff.1 h).1
 refine ⟨rfl, rfl, rfl, by simp [World.putObj], fun b hb => World.putObj_heap_other hb, fun i => ?_⟩
 rw [cell_noCells h h1, cell_noCells (World.putObj_heap_same hlt) h2]
theorem Turn.evo {w w' : World} {D : Nat} (h : Turn w w' D) (g : Gh) : Evo w g w' g := by
 refine ⟨fun b o hi => ⟨hi, ?_⟩, fun _ _ h => h, fun _ T h => ⟨T, h, rfl, .inl rfl⟩⟩
 by_cases e : b = D
 ·subst e; exact h.cell o
 ·exact cell_of_heap (h.block b e)
theorem Turn.heap {w w' : World} {D : Nat} (h : Turn w w' D) {g : Gh} {hp : Hp} (hD : D ∉ g.own) (hh : HeapRel w g hp) : HeapRel w' g hp :=
 hh.other (h.evo g) rfl rfl (fun n hn => h.block n fun e => hD (e ▸ hn)) (Nat.le_of_eq h.size.symm) fun b o ho => .inl ho
theorem Turn.inv {w w' : World} {D : Nat} (h : Turn w w' D) {w0 : World} {B g : Gh} {hp : Hp} (hD : D ∉ g.own) (hlt : w0.heap.size ≤ D) (hi : Inv w0 B hp w g) : Inv w0 B hp w' g := by
 refine ⟨h.heap hD hi.heap, hi.evo.trans (h.evo g), ?_, hi.newr, hi.newt, hi.i1⟩
 exact ⟨h.os.trans hi.keeps.os, h.tape.trans hi.keeps.tape, h.output.trans hi.keeps.output, by rw [h.size]; exact hi.keeps.size,
  fun b hb hn => (h.block b (by omega)).trans (hi.keeps.block b hb hn)⟩
theorem Inv.refl' {w : World} {g : Gh} {hp : Hp} (h : HeapRel w g hp) : Inv w g hp w g :=
 ⟨h, Evo.refl _ _, Keeps.refl _ _, fun _ h => .inl h, fun _ h => .inl h, fun _ _ h => .inl h⟩
theorem Inv.join {w0 w1 w : World} {B B1 G : Gh} {hp1 hp : Hp} (h : Inv w0 B hp1 w1 B1) (k : Inv w1 B1 hp w G) : Inv w0 B hp w G := by
 have hsz := h.keeps.size
 refine ⟨k.heap, h.evo.trans k.evo, h.keeps.trans' k.keeps h.new, fun n hn => ?_, fun n hn => ?_, fun b o ho => ?_⟩
 ·rcases k.newr n hn with q | q
  ·exact h.newr n q
  ·exact .inr (Nat.le_trans hsz q)
 ·rcases k.newt n hn with q | q
  ·exact h.newt n q
  ·exact .inr (Nat.le_trans hsz q)
 ·rcases k.i1 b o ho with q | q | q
  ·exact h.i1 b o q
  ·exact .inr (.inl (Nat.le_trans hsz q))
  ·rcases h.newt b q with p | p
   ·exact .inr (.inr p)
   ·exact .inr (.inl p)
def yldD (l : Nat) : D := .lit (.func (.yield l) #[] #[])
def Mod.with (M : Mod) (b : World → Gh → Prop) : Mod := { M with base := b }
theorem zBg {M : Mod} {f : FuncId} {args : List D} {d : D} (h : Pur M f args d) (b : World → Gh → Prop) : Pur (M.with b) f args d := h
theorem zEk {C C' : Cfg} (h2 : C.pers = C'.pers) (h3 : C.nt = C'.nt) (x : Operand) : resO C x = resO C' x := by
 cases x <;> simp only [resO, h2, h3]
theorem resOs_same {C C' : Cfg} (h2 : C.pers = C'.pers) (h3 : C.nt = C'.nt) : ∀ l : List Operand, resOs C l = resOs C' l
 | [] => rfl
 | x :: l => by simp only [resOs, zEk h2 h3 x, resOs_same h2 h3 l]
theorem resDst_same {C C' : Cfg} (h2 : C.pers = C'.pers) (h3 : C.nt = C'.nt) (x : Option Nat) : zB5 C x = zB5 C' x := by
 cases x <;> simp only [zB5, h2, h3]
theorem resDsts_same {C C' : Cfg} (h2 : C.pers = C'.pers) (h3 : C.nt = C'.nt) : ∀ l : List Nat, zCh C l = zCh C' l
 | [] => rfl
 | x :: l => by simp only [zCh, resDst_same h2 h3 (some x), resDsts_same h2 h3 l]
theorem resGuard_same {C C' : Cfg} (h2 : C.pers = C'.pers) (h3 : C.nt = C'.nt) (ops : Array Oper) (x : Option (Nat × Bool)) : zB3 C ops x = zB3 C' ops x := by
 cases x with
 | none => rfl
 | some p =>
   obtain ⟨j, want⟩ := p
   simp only [zB3]
   split
   ·rw [zEk h2 h3]
   ·rfl
theorem resOp1_same {C C' : Cfg} (h1 : C.P = C'.P) (h2 : C.pers = C'.pers) (h3 : C.nt = C'.nt) (ops : Array Oper) (o : Oper) : zDa C ops o = zDa C' ops o := by
 simp only [zDa, h1, resOs_same h2 h3, resDst_same h2 h3, resGuard_same h2 h3]
theorem zFh {C C' : Cfg} (h1 : C.P = C'.P) (h2 : C.pers = C'.pers) (h3 : C.nt = C'.nt) (ops : Array Oper) : ∀ l : List Nat, zBf C ops l = zBf C' ops l
 | [] => rfl
 | i :: l => by simp only [zBf, resOp1_same h1 h2 h3, zFh h1 h2 h3 ops l]
theorem zBc {C C' : Cfg} (h1 : C.P = C'.P) (h2 : C.pers = C'.pers) (h3 : C.nt = C'.nt) : ∀ c : Code, zAc C c = zAc C' c
 | .skip => rfl
 | .label _ => rfl
 | .region _ ops false => by simp only [zAc, zFh h1 h2 h3]
 | .region _ ops true => by simp only [zAc, zFh h1 h2 h3, h1]
 | .seq a b => by simp only [zAc, zBc h1 h2 h3 a, zBc h1 h2 h3 b]
 | .cond c a b => by simp only [zAc, zEk h2 h3 c, zBc h1 h2 h3 a, zBc h1 h2 h3 b]
 | .block id b => by simp only [zAc, zBc h1 h2 h3 b]
 | .loop b => by simp only [zAc, zBc h1 h2 h3 b]
 | .exit _ => rfl
 | .ret => rfl
 | .rangeFunc g ps a b => by simp only [zAc, zEk h2 h3 g, resDsts_same h2 h3, zBc h1 h2 h3 a, zBc h1 h2 h3 b]
 | .goto _ => rfl
 | .scope b => by simp only [zAc, zBc h1 h2 h3 b]
 | .refuse _ => rfl
theorem zCr {C C' : Cfg} {c : Code} {rc : RC} (h : zAc C' c = some rc) (h1 : C.P = C'.P) (h2 : C.pers = C'.pers) (h3 : C.nt = C'.nt) : zAc C c = some rc := (zBc h1 h2 h3 c).trans h
def Cfg.atB (C : Cfg) (b : World → Gh → Prop) (hp : Hp) : Cfg := { M := C.M.with b, pers := C.pers, nt := C.nt, n0 := hp.H.length, m0 := hp.tk.length }
theorem atB_M {C : Cfg} {b : World → Gh → Prop} {hp : Hp} : (C.atB b hp).M = C.M.with b := rfl
def mark (D : Nat) : Deferred := { target := .collected D, args := #[] }
def SimT (C : Cfg) (n m : Nat) (w0 : World) (B : Gh) (s : St) (a : Act) (w : World) : Prop :=
 ∃ w1 B1 hp1, ∃ Ds : List Nat, Inv w0 B hp1 w1 B1 ∧ Ds.Nodup ∧ (∀ D ∈ Ds, w1.heap[D]? = some (.deferred (some [])) ∧ D ∉ B1.own ∧ w0.heap.size ≤ D) ∧
  Sim { C with n0 := n, m0 := m, dfs := Ds.map mark } w1 B1 s a w
def LiftT (C : Cfg) (w0 : World) (B : Gh) (Q : Ex → Nat → Nat → St → Prop) : Exit → Act → World → Prop
 | .normal, a, w => ∃ n m s, SimT C n m w0 B s a w ∧ Q .normal n m s
 | .exit i, a, w => ∃ n m s, SimT C n m w0 B s a w ∧ Q (.exit i) n m s
 | .ret, a, w => ∃ n m s, SimT C n m w0 B s a w ∧ Q .ret n m s
 | .panic ch, _, w => ∃ w1 B1, PanPost C.M w1 B1 (.panicked ch) w
 | _, _, _ => False
structure TWp (C : Cfg) (n m : Nat) (rc : RC) (Q : Ex → Nat → Nat → St → Prop) (s : St) : Prop where
 run : ∀ c, zAc C c = some rc → ∀ w0 B, C.M.start w0 B → ∀ a w, SimT C n m w0 B s a w → c.wpIn Fence.wide 0 C.P (LiftT C w0 B Q) a w
section
variable {C : Cfg} {n m : Nat} {Q : Ex → Nat → Nat → St → Prop} {s : St}
theorem start_up (hbs : ∀ w g, C.M.base w g) {w0 : World} {B : Gh} (hA : C.M.start w0 B) {hp1 w1 B1} (hi : Inv w0 B hp1 w1 B1) : C.M.start w1 B1 :=
 ⟨C.M.up _ _ _ _ hA.1 hi.keeps hi.new, hbs _ _⟩
theorem twp_of {rc : RC} (hbs : ∀ w g, C.M.base w g) (h : ∀ ds, SWp { C with n0 := n, m0 := m, dfs := ds } rc (fun e s => Q e n m s) s) : TWp C n m rc Q s := by
 refine ⟨fun c hc w0 B hA a w hs => ?_⟩
 obtain ⟨w1, B1, hp1, Ds, h1, h2, h3, h4⟩ := hs
 have := (h (Ds.map mark)).run c (zCr hc rfl rfl rfl) w1 B1 (start_up hbs hA h1) a w h4 none
 refine wpIn_mono this fun e a' w' hl => ?_
 cases e <;> simp only [Lift, LiftT] at hl ⊢ <;> first | exact ⟨_, _, hl.2⟩ | (obtain ⟨s', g1, g2⟩ := hl; exact ⟨n, m, s', ⟨w1, B1, hp1, Ds, h1, h2, h3, g1⟩, g2⟩)
theorem twp_weak {rc : RC} {s1 : St} (h : ∀ ds, Weak { C with n0 := n, m0 := m, dfs := ds } s s1) (g : TWp C n m rc Q s1) : TWp C n m rc Q s :=
 ⟨fun c hc w0 B hA a w hs => g.run c hc w0 B hA a w (by
  obtain ⟨w1, B1, hp1, Ds, h1, h2, h3, h4⟩ := hs
  exact ⟨w1, B1, hp1, Ds, h1, h2, h3, h _ _ _ _ _ h4⟩)⟩
theorem twp_seq {x y : RC} (h : TWp C n m x (fun e n' m' s' => match e with | .normal => TWp C n' m' y Q s' | e => Q e n' m' s') s) : TWp C n m (.seq x y) Q s := by
 refine ⟨fun c hc w0 B hA a w hs => ?_⟩
 have hreg : ∀ id ops d, c = .region id ops d → _ := fun id ops d e => zAv (e ▸ hc)
 cases c <;> (try simp only [zAc] at hc) <;> (try (cases hc; done))
 case seq ca cb =>
  cases ha : zAc C ca with
  | none => simp [ha] at hc
  | some p =>
    cases hb : zAc C cb with
    | none => simp [ha, hb] at hc
    | some q =>
      simp [ha, hb] at hc
      obtain ⟨rfl, rfl⟩ := hc
      refine wpIn_seq (wpIn_mono (h.run ca ha w0 B hA a w hs) fun e a' w' hl => ?_)
      cases e <;> simp only [LiftT, Exit.then] at hl ⊢ <;> try exact hl
      obtain ⟨n', m', s', h1, h2⟩ := hl
      exact h2.run cb hb w0 B hA a' w' h1
 case region _ ops d => exfalso; have := hreg _ _ _ rfl; simp at this
 all_goals exfalso; (repeat' split at hc) <;> simp_all
theorem zEd {id : Nat} {x : RC} (h : TWp C n m x (fun e n' m' s' => match e with | .exit i => if i = id then Q .normal n' m' s' else Q (.exit i) n' m' s' | e => Q e n' m' s') s) : TWp C n m (.block id x) Q s := by
 refine ⟨fun c hc w0 B hA a w hs => ?_⟩
 have hreg : ∀ id ops d, c = .region id ops d → _ := fun id ops d e => zAv (e ▸ hc)
 cases c <;> (try simp only [zAc] at hc) <;> (try (cases hc; done))
 case block i cb =>
  cases hb : zAc C cb with
  | none => simp [hb] at hc
  | some q =>
    simp [hb] at hc
    obtain ⟨rfl, rfl⟩ := hc
    refine wpIn_block (wpIn_mono (h.run cb hb w0 B hA a w hs) fun e a' w' hl => ?_)
    cases e <;> simp only [LiftT, Exit.inBlock] at hl ⊢ <;> try exact hl
    obtain ⟨n', m', s', h1, h2⟩ := hl
    split at h2
    ·rename_i e; rw [if_pos e]; exact ⟨n', m', s', h1, h2⟩
    ·rename_i e; rw [if_neg e]; exact ⟨n', m', s', h1, h2⟩
 case region _ ops d => exfalso; have := hreg _ _ _ rfl; simp at this
 all_goals exfalso; (repeat' split at hc) <;> simp_all
def binds : List Dst → List D → St → St
 | p :: ps, d :: ds, s => binds ps ds (s.put p d)
 | _, _, s => s
theorem binds_rel {w : World} {G : Gh} : ∀ (pl : List Nat) (ps : List Dst) (ds : List D) (vs : List Value) (s : St) (a : Act), zCh C pl = some ps → RelL w G ds vs → ds.length = ps.length →
 (∀ t, Rel w G (s.slot C.pers t) (a.tmps.getD t Go.undef)) → a.tmps.size = C.nt → s.env.length = C.pers.length →
 (∀ t, Rel w G ((binds ps ds s).slot C.pers t) (((pl.zip vs).foldl (fun (tm : Array Value) (p : Nat × Value) => tm.setIfInBounds p.1 p.2) a.tmps).getD t Go.undef)) ∧
  ((pl.zip vs).foldl (fun (tm : Array Value) (p : Nat × Value) => tm.setIfInBounds p.1 p.2) a.tmps).size = C.nt ∧ (binds ps ds s).env.length = C.pers.length ∧ (binds ps ds s).hp = s.hp
 | [], ps, ds, vs, s, a, hr, hv, hl, h1, h2, h3 => by
   simp [zCh] at hr; subst hr
   simp at hl; subst hl
   exact ⟨h1, h2, h3, rfl⟩
 | t :: pl, ps, ds, vs, s, a, hr, hv, hl, h1, h2, h3 => by
   simp only [zCh] at hr
   cases hp : zB5 C (some t) with
   | none => simp [hp] at hr
   | some p =>
     cases hq : zCh C pl with
     | none => simp [hp, hq] at hr
     | some qs =>
       simp [hp, hq] at hr; subst hr
       cases ds with
       | nil => simp at hl
       | cons d ds =>
         obtain ⟨v, vs, rfl, hv1, hv2⟩ := hv.inv
         have key := put_rel (a := a) h1 h2 h3 hp hv1
         obtain ⟨g1, g2, g3, g4⟩ := binds_rel pl qs ds vs (s.put p d) (a.put (some t) v) hq hv2 (by simpa using hl) key (by rw [zBd]; exact h2) (by rw [zBl]; exact h3)
         simp only [binds, List.zip_cons_cons, List.foldl_cons]
         exact ⟨g1, g2, g3, by rw [g4, zDh]⟩
theorem zE6 : ∀ (pl : List Nat) (ps : List Dst), zCh C pl = some ps → ps.length = pl.length
 | [], ps, h => by simp [zCh] at h; subst h; rfl
 | t :: pl, ps, h => by
   simp only [zCh] at h
   cases hp : zB5 C (some t) with
   | none => simp [hp] at h
   | some p =>
     cases hq : zCh C pl with
     | none => simp [hp, hq] at h
     | some qs => simp [hp, hq] at h; subst h; simp [zE6 pl qs hq]
theorem leaves_marks {P : Program} {fn : Func} {tmps : Array Value} {R : Ending → World → Prop} (J : World → Prop) (hend : ∀ w, J w → LeavesIn Fence.wide 0 P fn tmps R [] .returning w) :
 ∀ (Ds : List Nat) (w : World), Ds.Nodup → (∀ D ∈ Ds, w.heap[D]? = some (.deferred (some []))) → (∀ w w' D, D ∈ Ds → J w → Turn w w' D → J w') → J w → LeavesInM Fence.wide 0 P fn tmps R (Ds.map mark) .returning w
 | [], w, _, _, _, h => hend w h
 | D :: Ds, w, hn, hk, hJ, h => by
   obtain ⟨hn1, hn2⟩ := List.nodup_cons.1 hn
   have h0 := hk D (List.mem_cons_self ..)
   have t := Turn.put (o' := .deferred none) h0 rfl rfl
   refine ⟨by simp, .inl ⟨D, _, rfl, run_takeDeferred h0, leaves_marks J hend Ds _ hn2 (fun E hE => ?_) (fun w w' E hE => hJ w w' E (List.mem_cons_of_mem _ hE)) (hJ _ _ D (List.mem_cons_self ..) h t)⟩⟩
   rw [t.block E (fun e => hn1 (e ▸ hE))]
   exact hk E (List.mem_cons_of_mem _ hE)
theorem eff_of_bodyT {C : Cfg} {f : FuncId} {fn : Func} {c : Code} {rc : RC} {rs : List RR} (hf : C.P.funcs[f]? = some fn) (hb : fn.body = some c) (hnt : fn.ntmps = C.nt) (hrc : zAc C c = some rc) (hrs : resRs C fn.results.toList = some rs)
 {args : List D} {hp : Hp} {R : D → Hp → Prop} (hname : (fn.name == "runtime.NumGoroutine") = false) (hpl : C.pers.take args.length = List.range args.length) (hlt : args.length ≤ C.nt) (hn0 : C.n0 = hp.H.length) (hm0 : C.m0 = hp.tk.length)
 (h : TWp C hp.H.length hp.tk.length rc (fun e n m s => (match e with | .exit _ => False | _ => True) ∧ ∃ s1, (∀ ds, Weak { C with n0 := n, m0 := m, dfs := ds } s s1) ∧ rrsWp rs s1 fun ds => R (zAn ds) s1.hp) (St.init C args hp))
 (hbs : ∀ w g, C.M.base w g := by exact fun _ _ => trivial) (hpan : ∀ d hp, ¬ C.M.pan d hp := by exact fun _ _ h => h) : Eff C.M f args hp R := by
 refine ⟨⟨fn, hf, by simp [hb], hname⟩, fun w g xs hA hH hargs => ?_⟩
 refine (callsIn_wide (n := 0)).1 (callsIn_of_wp_marks (F := Fence.wide) (n := 0) hf hb trivial ?_ rfl)
 have hsim := zD7 (C := { C with n0 := hp.H.length, m0 := hp.tk.length, dfs := [] }) hnt hpl hlt rfl rfl rfl hH hargs
 refine wpIn_mono (h.run c hrc w g ⟨hA, hbs _ _⟩ _ w ⟨w, g, hp, [], Inv.refl' hH, List.nodup_nil, by simp, hsim⟩) fun e a' w' hl => ?_
 have fin : ∀ n m s, SimT C n m w g s a' w' → (∃ s1, (∀ ds, Weak { C with n0 := n, m0 := m, dfs := ds } s s1) ∧ rrsWp rs s1 fun ds => R (zAn ds) s1.hp) →
  LeavesInM Fence.wide 0 C.P fn a'.tmps (Post w g R) a'.defers .returning w' := by
  intro n m s hs hrr
  obtain ⟨s1, hw, hrr⟩ := hrr
  obtain ⟨w1, B1, hp1, Ds, h1, h2, h3, h4⟩ := hs
  obtain ⟨G, g0, gb, g1, g2, g3, g4⟩ := hw _ _ _ _ _ h4
  rw [g2]
  refine leaves_marks (fun w2 => Inv w g s1.hp w2 G ∧ ∀ t, Rel w2 G (s1.slot C.pers t) (a'.tmps.getD t Go.undef)) ?_ Ds w' h2 (fun D hD => ?_) ?_ ⟨h1.join g0, g4⟩
  ·rintro w2 ⟨j1, j2⟩
   obtain ⟨ds, v, k1, k4, k5⟩ := zCp (a := a') (fn := fn) j1 j2 hrs hrr
   exact ⟨v, k5, v, _, _, G, rfl, k1, j1, k4⟩
  ·obtain ⟨d1, d2, d3⟩ := h3 D hD
   rw [g0.keeps.block D (Array.getElem?_eq_some_iff.1 d1).1 d2]; exact d1
  ·rintro w2 w3 D hD ⟨j1, j2⟩ t
   obtain ⟨d1, d2, d3⟩ := h3 D hD
   have hG : D ∉ G.own := fun hm => by
    rcases g0.new D hm with q | q
    ·exact d2 q
    ·have := (Array.getElem?_eq_some_iff.1 d1).1; omega
   exact ⟨t.inv hG d3 j1, fun u => Rel.evo _ (t.evo G) (j2 u)⟩
 cases e <;> simp only [LiftT, bodyPostM] at hl ⊢
 case panic => obtain ⟨_, _, _, _, _, _, _, k, _⟩ := hl; exact absurd k (hpan _ _)
 ·obtain ⟨n, m, s, h1, _, h2⟩ := hl; exact fin n m s h1 h2
 ·obtain ⟨n, m, s, h1, h3, h2⟩ := hl; exact h3.elim
 ·obtain ⟨n, m, s, h1, _, h2⟩ := hl; exact fin n m s h1 h2
theorem pur_of_bodyT {C : Cfg} {f : FuncId} {fn : Func} {c : Code} {rc : RC} {rs : List RR} (hf : C.P.funcs[f]? = some fn) (hb : fn.body = some c) (hnt : fn.ntmps = C.nt) (hrc : zAc C c = some rc) (hrs : resRs C fn.results.toList = some rs)
 {args : List D} {d : D} (hname : (fn.name == "runtime.NumGoroutine") = false) (hpl : C.pers.take args.length = List.range args.length) (hlt : args.length ≤ C.nt) (hn0 : C.n0 = 0) (hm0 : C.m0 = 0)
 (h : TWp C 0 0 rc (fun e n m s => (match e with | .exit _ => False | _ => True) ∧ ∃ s1, (∀ ds, Weak { C with n0 := n, m0 := m, dfs := ds } s s1) ∧ rrsWp rs s1 fun ds => D.closed (zAn ds) = true ∧ (zAn ds).er = d) (St.init C args ⟨[], []⟩))
 (hbs : ∀ w g, C.M.base w g := by exact fun _ _ => trivial) (hpan : ∀ d hp, ¬ C.M.pan d hp := by exact fun _ _ h => h) : Pur C.M f args d :=
 zDr (eff_of_bodyT hf hb hnt hrc hrs hname hpl hlt hn0 hm0 h hbs hpan)
end
theorem zDn {C : Cfg} {s : St} (b off k : Nat) (hk : 0 < k) {cs : List D} (hb : s.hp.H[b]? = some (.cells cs)) (hc : cs[off]? = some (.lit (.slice none 0 0))) :
 Weak C s ⟨s.env, s.scr, ⟨s.hp.H.set b (.cells (cs.set off (.slice [] (.tok s.hp.tk.length)))), s.hp.tk ++ [.per k 0]⟩⟩ := by
 intro w0 B a w h
 obtain ⟨G, g0, gb, g1, g2, g3, g4⟩ := h
 obtain ⟨q1, q2⟩ := g0.tokFull (len := 0) (a := none) hk (.per k 0) (.inl rfl)
 obtain ⟨n, hn⟩ : ∃ n, G.r[b]? = some n := by
  have hl := zAd hb
  rw [g0.heap.len] at hl
  exact ⟨_, List.getElem?_eq_getElem hl⟩
 obtain ⟨xs, e, k1, k2, k3⟩ := g0.heap.blk b _ n hb hn
 obtain ⟨x, hx, hrx⟩ := k2.get hc
 simp only [Rel] at hrx
 obtain ⟨rfl, _⟩ := hrx
 have hgs : Rel w (G.tok ⟨none, none, 0, k, 0⟩) (.slice [] (.tok s.hp.tk.length)) (.slice none 0 0) := by
  simp only [Rel]
  rw [g0.heap.lent]
  refine ⟨⟨0, 0, none⟩, 0, k, [], .inr ⟨by trivial, by simp, rfl⟩, by simp, RelL.nil, by simp, ⟨fun _ => rfl, by simp [flat]⟩, ?_⟩
  exact ⟨_, zFe _ _, rfl, by simp, fun _ => by rfl⟩
 have hset : xs.set off (.slice none 0 0) = xs := by
  apply List.ext_getElem?
  intro i
  rw [List.getElem?_set]
  split
  ·rename_i e; subst e; rw [hx]; split <;> simp_all [zAd hx]
  ·rfl
 obtain ⟨u1, u2⟩ := q1.write (w' := w) b n hn ⟨_, hb, by simp⟩ (.cells (cs.set off (.slice [] (.tok s.hp.tk.length))))
  (fun w1 g1 he => by
   rw [k1]
   refine ⟨xs, e, rfl, ?_, k3⟩
   have := (RelL.evo _ he (RelL.evo _ q2 k2)).set off (Rel.evo _ he hgs)
   rw [hset] at this
   exact this)
  (fun _ _ => rfl) rfl rfl rfl rfl
 refine ⟨_, u1, gb, g1, g2, g3, fun t => ?_⟩
 have h4 := g4 t
 unfold St.slot at *
 split
 ·rename_i j hj
  rw [hj] at h4
  exact Rel.evo _ u2 (Rel.evo _ q2 h4)
 ·rename_i hj
  rw [hj] at h4
  exact Rel.evo _ u2 (Rel.evo _ q2 h4)
section
variable {C : Cfg} {n m : Nat} {Q : Ex → Nat → Nat → St → Prop} {s : St}
theorem twp_reg {ros : List RO} (hbs : ∀ w g, C.M.base w g) (h : ∀ ds, SWp { C with n0 := n, m0 := m, dfs := ds } (.reg ros) (fun e s => Q e n m s) s) : TWp C n m (.reg ros) Q s := twp_of hbs h
theorem zFp {qs : List (RO × Bool)} {ros : List RO} (hbs : ∀ w g, C.M.base w g) (h : ∀ ds, SWp { C with n0 := n, m0 := m, dfs := ds } (.regD qs ros) (fun e s => Q e n m s) s) : TWp C n m (.regD qs ros) Q s := twp_of hbs h
theorem zFq {g : Opd} {x y : RC} (hbs : ∀ w g, C.M.base w g) (h : ∀ ds, SWp { C with n0 := n, m0 := m, dfs := ds } (.cond g x y) (fun e s => Q e n m s) s) : TWp C n m (.cond g x y) Q s := twp_of hbs h
theorem twp_ret (hbs : ∀ w g, C.M.base w g) (h : Q .ret n m s) : TWp C n m .ret Q s := twp_of hbs fun _ => swp_ret h
end
end GoV
end
section
namespace GoV
open Go Go.RowKit Go.ChangeShapes Go.Deep
abbrev G0 (w : World) : Gh := ⟨[], [], fun b _ => b < w.heap.size⟩
def Opens (P : Program) (w : World) (n : Nat) (t : TypeId) {α : Type} (f : α → List D) (ok : α → Prop) : Prop :=
 ∀ (H : Type) (enc : TypeId × Value → H) (cs : List Value) (x : DataW H × List MemPlace), DataW.trod enc P w 0 (fun _ => true) true n t cs = some x →
  ∃ a, ok a ∧ RelL w (G0 w) (f a) cs ∧ ∀ y ∈ cs, oneC y
section
variable {P : Program} {w : World} {n : Nat} {t e : TypeId}
theorem Opens.imp {α β : Type} {f : α → List D} {ok : α → Prop} {f' : β → List D} {ok' : β → Prop} (h : Opens P w n t f ok) (c : α → β) (h1 : ∀ a, ok a → f' (c a) = f a) (h2 : ∀ a, ok a → ok' (c a)) : Opens P w n t f' ok' := by
 intro H enc cs x hx
 obtain ⟨a, k1, k2, k3⟩ := h H enc cs x hx
 exact ⟨c a, h2 a k1, by rw [h1 a k1]; exact k2, k3⟩
theorem opens_str (ht : P.underlying t = some .string) : Opens P w n t (fun s : List UInt8 => [.str s]) (fun s => s.length ≤ 9223372036854775807) := by
 intro H enc cs x hx
 obtain ⟨s, rfl, _, hl⟩ := DataW.trod_string ht hx
 refine ⟨s.data.toList, ?_, RelL.one (by simp [Rel]), by simp [oneC, Value.oneCell']⟩
 have : s.data.toList.length = s.size := by rw [Array.length_toList]; rfl
 show s.data.toList.length ≤ _
 rw [this]
 exact Nat.le_trans hl (by decide)
theorem arg_cell {α : Type} {f : α → List D} {ok : α → Prop} {H : Type} {enc : TypeId × Value → H} {v : Value} {d : DataW H} {ps : List MemPlace} {b : Nat} {desc : TypeDesc} (ht : P.underlying t = some desc) (hd : zBe desc = false) (hval : Value.okWide P w .any b t v)
 (h : DataW.Trod enc P w 0 (fun _ => true) true t v d ps) (hO : ∀ n, Opens P w n t f ok) : ∃ a, ok a ∧ RelL w (G0 w) (f a) [v] := by
 obtain ⟨fuel, hx⟩ := h
 obtain ⟨a, k1, k2, _⟩ := hO fuel H enc _ _ hx
 refine ⟨a, k1, ?_⟩
 have hv : oneC v := by
  cases v with
  | agg cs =>
    exfalso
    unfold Value.okWide at hval
    rw [ht] at hval
    cases desc <;> simp_all [zBe, Cell.okWide, Cell.ok]
  | tuple cs =>
    exfalso
    unfold Value.okWide at hval
    rw [ht] at hval
    cases desc <;> simp_all [zBe, Cell.okWide, Cell.ok]
  | _ => simp [oneC, Value.oneCell']
 rw [cells_one hv] at k2
 exact k2
theorem relL_app {ds es : List D} {xs ys : List Value} (h : RelL w (G0 w) ds xs) (h2 : RelL w (G0 w) es ys) : RelL w (G0 w) (ds ++ es) (xs ++ ys) := h.append h2
end
end GoV
end
section
set_option maxHeartbeats 1000000
namespace GoV
open Go Go.RowKit
theorem laid_var {P : Program} {W : World} : ∀ {l : List (String × DataW Unit)} {ps : List MemPlace}, DataW.LaidVars P W l ps → ∀ {name : String} {d : DataW Unit}, (name, d) ∈ l → ∃ g t cs fuel p, P.globalNamed name = some g ∧ (P.globals[g]?).map (·.type) = some t ∧ W.var? P name = some cs ∧
 DataW.trod (fun _ => ()) P W 0 (fun _ => true) false fuel t cs.toList = some (d, p)
 | [], _, _, _, _, h => by cases h
 | x :: r, _, hl, name, d, h => by
   obtain ⟨g, t, cs, fuel, p, q, h1, h2, h3, h4, h5, _⟩ := hl
   rcases List.mem_cons.1 h with h | h
   ·subst h; exact ⟨g, t, cs, fuel, p, h1, h2, h3, h4⟩
   ·exact laid_var h5 h
theorem heap_of_var {P : Program} {W : World} {name : String} {g : Nat} {cs : Array Value} (hg : P.globalNamed name = some g) (h : W.var? P name = some cs) : ∃ e fr, W.heap[g]? = some (.cells cs e fr) := by
 unfold World.var? at h
 rw [hg] at h
 simp only [Option.bind_some] at h
 split at h
 ·rename_i cs e fr hh; simp at h; subst h; exact ⟨e, fr, hh⟩
 ·cases h
theorem var_tab {P : Program} {W : World} {l : List (String × DataW Unit)} {name : String} {k : IntKind} {zs : List Int} {ps : List MemPlace} {g : Nat} {t e : TypeId} {n : Nat}
 (hl : DataW.LaidVars P W l ps) (hm : (name, Lib.tabData k zs) ∈ l) (hg : P.globalNamed name = some g) (hty : (P.globals[g]?).map (·.type) = some t) (ht : P.underlying t = some (.array n e)) (he : P.underlying e = some (.int k)) (hce : P.cellsOf e = 1) (hct : P.cellsOf t = n) :
 ∃ cs x fr, cs = (zs.map fun z => Value.int k z).toArray ∧ W.heap[g]? = some (.cells cs x fr) := by
 obtain ⟨g', t', cs, fuel, p, hg', ht', hvar, hd⟩ := laid_var hl hm
 obtain rfl := Option.some.inj (hg.symm.trans hg')
 obtain rfl := Option.some.inj (hty.symm.trans ht')
 obtain ⟨x, fr, hh⟩ := heap_of_var hg hvar
 exact ⟨cs, x, fr, by rw [← Lib.cells_of_tab ht he hce hct hd], hh⟩
theorem var_err {P : Program} {W : World} {l : List (String × DataW Unit)} {name nm : String} {d : DataW Unit} {ps : List MemPlace} {g : Nat} {t : TypeId} {ms : Array (String × TypeId)}
 (hl : DataW.LaidVars P W l ps) (hm : (name, .iface nm d) ∈ l) (hg : P.globalNamed name = some g) (hty : (P.globals[g]?).map (·.type) = some t) (ht : P.underlying t = some (.interface ms)) :
 ∃ cs x fr, (∃ v, (v = .nilIface ∨ ∃ te pe, v = .iface te pe) ∧ cs = #[v]) ∧ W.heap[g]? = some (.cells cs x fr) := by
 obtain ⟨g', t', cs, fuel, p, hg', ht', hvar, hd⟩ := laid_var hl hm
 obtain rfl := Option.some.inj (hg.symm.trans hg')
 obtain rfl := Option.some.inj (hty.symm.trans ht')
 obtain ⟨x, fr, hh⟩ := heap_of_var hg hvar
 refine ⟨cs, x, fr, ?_, hh⟩
 cases fuel with
 | zero => simp [DataW.trod] at hd
 | succ n =>
   unfold DataW.trod at hd
   rw [ht] at hd
   split at hd <;> first
    | (simp at hd; done)
    | (rename_i hc; simp_all; done)
    | (rename_i u v _ hc
       have : cs = #[.iface u v] := by
        cases cs with
        | mk c => simp at hc; rw [hc]
       exact ⟨_, .inr ⟨u, v, rfl⟩, this⟩)
    | (rename_i u v hc _
       have : cs = #[.iface u v] := by
        cases cs with
        | mk c => simp at hc; rw [hc]
       exact ⟨_, .inr ⟨u, v, rfl⟩, this⟩)
theorem var_int {P : Program} {W : World} {g : Nat} {t : TypeId} {zero : Array Value} {k : IntKind} (h : W.ShapedOpen P) (hg : g < P.globals.size)
 (h0 : ((begin P (fun _ _ => 0) default).world.heap[g]?).bind Obj.row? = some (zero, t)) (hz : zero.size = 1) (hb : P.buildable t = true) (hc : P.cellTypes P.depth t = some [t]) (hu : P.underlying t = some (.int k)) :
 ∃ cs x fr, (∃ v, (∃ m, v = .int k m) ∧ cs = #[v]) ∧ W.heap[g]? = some (.cells cs x fr) := by
 obtain ⟨m, hm⟩ := Proofs.cell_of_shapedOpen_int h hg h0 hz hb hc hu
 obtain ⟨cs, hh, hs, _⟩ := h.1 g zero t hg h0
 refine ⟨cs, t, _, ⟨.int k m, ⟨m, rfl⟩, ?_⟩, hh⟩
 rw [hz] at hs
 unfold World.cell? at hm
 rw [hh] at hm
 simp at hm
 obtain ⟨c⟩ := cs
 match c, hs with
 | [v], _ => simp at hm; rw [hm]
end GoV
end
section
set_option linter.unusedSimpArgs false
set_option linter.unusedVariables false
set_option maxHeartbeats 1000000
namespace GoV
open Go
section
variable {C : Cfg} {w0 : World} {B : Gh}
end
section
variable {M : Mod} {j i : Nat} {dst : Dst} {a g : Opd} {q : Bool} {r : List (RO × Bool)} {K : St → Prop} {s : St} {want : Bool} {oc : OC} {args : List Opd}
end
end GoV
end
section
set_option linter.unusedSimpArgs false
set_option linter.unusedVariables false
set_option maxHeartbeats 1000000
namespace GoV
open Go
section
variable {C : Cfg} {w0 : World} {B : Gh}
theorem draw_soundF {ro : Option Nat} {Q : Exit → Act → World → Prop} (hA : C.M.start w0 B ∧ PQ C w0 B Q) {ops : Array Oper} {m : Nat} {ros : List RO} {K : St → Prop} (hB : drawOk ops m = true) (hm : m ≤ ops.size) (hr : zBf C ops (List.range' 0 ops.size) = some ros)
 (hQ : ∀ s a w, K s → Sim C w0 B s a w → Q .normal a w) {s : St} (_hl : s.env.length = C.pers.length)
 {ds : Nat → D} {F : (Nat → Bool) → Hp} {s1 : St} (hk1 : opsWp C.M (ros.drop m) K s1) (hpm : F (fun j => decide (j < m)) = s1.hp) (hl1 : s1.env.length = C.pers.length)
 (hst : ∀ i, i < m → ∃ o, ops[i]? = some o ∧ ∀ E : Nat → Bool, E i = false → StepQ C ops (F E) (F (fun j => E j || j == i)) (sig ops (s.slot C.pers) ds (fun _ => true) i) o (ds i))
 (hend : sig ops (s.slot C.pers) ds (fun _ => true) m = s1.slot C.pers) :
 ∀ (fuel : Nat) (listed : Array Bool) (a : Act) (w : World), listed.size = ops.size → unl listed.toList ≤ fuel →
  (∀ j oj, ops[j]? = some oj → listed.getD j false = true → ∀ e ∈ oj.after, Region.binds .any e = true → listed.getD e.on false = true) →
  (((∀ j, listed.getD j false = true → j < m) ∧ SimF C w0 B (sig ops (s.slot C.pers) ds (fun j => listed.getD j false) m) (F (fun j => listed.getD j false)) a w) ∨
    ∃ i s', m ≤ i ∧ (∀ j, j < ops.size → (listed.getD j false = true ↔ j < i)) ∧ Sim C w0 B s' a w ∧ opsWp C.M (ros.drop i) K s') →
  wpAnyIn (FR ro) 0 C.P .any ops Q fuel listed a w := by
 have hros : ros.length = ops.size := by rw [zCg _ _ hr]; simp
 have hsub : ∀ (listed : Array Bool), (∀ j oj, ops[j]? = some oj → listed.getD j false = true → ∀ e ∈ oj.after, Region.binds .any e = true → listed.getD e.on false = true) →
  ∀ j oj, ops[j]? = some oj → (∀ e ∈ oj.after, Region.binds .any e = true → listed.getD e.on false = true) → ∀ i ∈ (zA0 ops.toList).getD j [], listed.getD i false = true := by
  intro listed hcl j
  induction j using Nat.strongRecOn with
  | _ j ih =>
    intro oj hj ha i hi
    obtain ⟨e, he, hbd, h1⟩ := zFk (by simpa using hj) hi
    rcases h1 with h1 | h1
    ·rw [h1]; exact ha e he hbd
    ·have hlt := (zAz hB hj).1 e he hbd
     have hjs : j < ops.size := (Array.getElem?_eq_some_iff.1 hj).1
     have hoe : ops[e.on]? = some ops[e.on] := Array.getElem?_eq_getElem (by omega)
     exact ih e.on hlt _ hoe (hcl e.on _ hoe (ha e he hbd)) i h1
 have conv : ∀ (listed : Array Bool) (a : Act) (w : World), (∀ j, listed.getD j false = true → j < m) → (∀ j, j < m → listed.getD j false = true) →
  SimF C w0 B (sig ops (s.slot C.pers) ds (fun j => listed.getD j false) m) (F (fun j => listed.getD j false)) a w → Sim C w0 B s1 a w := by
  intro listed a w h1 h2 hs
  have e : sig ops (s.slot C.pers) ds (fun j => listed.getD j false) m = s1.slot C.pers := by
   rw [← hend]; funext t
   exact zEg m fun j hj _ => h2 j hj
  obtain ⟨G, g1, gb, g2, g3, g4⟩ := hs
  have ef : (fun j => listed.getD j false) = (fun j => decide (j < m)) := by
   funext j
   by_cases q : j < m
   ·rw [h2 j q, decide_eq_true q]
   ·rw [decide_eq_false q]
    cases hb : listed.getD j false with
    | false => rfl
    | true => exact absurd (h1 j hb) q
  rw [ef] at g1
  exact ⟨G, by rw [← hpm]; exact g1, gb, g2, g3, hl1, by rw [← e]; exact g4⟩
 have fin : ∀ (listed : Array Bool) (a : Act) (w : World), (∀ j, j < ops.size → listed.getD j false = true) →
  (((∀ j, listed.getD j false = true → j < m) ∧ SimF C w0 B (sig ops (s.slot C.pers) ds (fun j => listed.getD j false) m) (F (fun j => listed.getD j false)) a w) ∨
    ∃ i s', m ≤ i ∧ (∀ j, j < ops.size → (listed.getD j false = true ↔ j < i)) ∧ Sim C w0 B s' a w ∧ opsWp C.M (ros.drop i) K s') → Q .normal a w := by
  intro listed a w hall h
  rcases h with ⟨h1, h2⟩ | ⟨i, s', h1, h2, h3, h4⟩
  ·have hs1 := conv listed a w h1 (fun j hj => hall j (by omega)) h2
   have hmn : ops.size ≤ m := by
    rcases Nat.eq_zero_or_pos ops.size with g | g
    ·omega
    ·have := h1 (ops.size - 1) (hall _ (by omega)); omega
   rw [List.drop_eq_nil_of_le (by omega)] at hk1
   exact hQ s1 a w hk1 hs1
  ·have hin : ops.size ≤ i := by
    rcases Nat.eq_zero_or_pos ops.size with g | g
    ·omega
    ·have := (h2 (ops.size - 1) (by omega)).1 (hall _ (by omega)); omega
   rw [List.drop_eq_nil_of_le (by omega)] at h4
   exact hQ s' a w h4 h3
 have least : ∀ (listed : Array Bool), listed.size = ops.size → (∀ j oj, ops[j]? = some oj → listed.getD j false = true → ∀ e ∈ oj.after, Region.binds .any e = true → listed.getD e.on false = true) →
  Region.ready .any ops listed = [] → ∀ j, j < ops.size → listed.getD j false = true := by
  intro listed hsz hcl hr0 j
  induction j using Nat.strongRecOn with
  | _ j ih =>
    intro hj
    cases hb : listed.getD j false with
    | true => rfl
    | false =>
      exfalso
      have hoj : ops[j]? = some ops[j] := Array.getElem?_eq_getElem hj
      have : j ∈ Region.ready .any ops listed := by
       rw [mem_ready]
       refine ⟨?_, ops[j], hoj, fun e he hbd => ?_⟩
       ·have hlt : j < listed.size := by omega
        simp [hlt] at hb ⊢; exact hb
       ·have := (zAz hB hoj).1 e he hbd
        exact ih e.on this (by omega)
      rw [hr0] at this; cases this
 intro fuel
 induction fuel with
 | zero =>
   intro listed a w hsz hu hcl h
   have hall : ∀ j, j < ops.size → listed.getD j false = true := by
    intro j hj
    have hlt : j < listed.size := by omega
    have := unl_zero listed.toList (by omega) j (by simpa using hlt)
    simp [hlt] at this ⊢; exact this
   refine ⟨?_, fin listed a w hall h⟩
   cases hr0 : Region.ready .any ops listed with
   | nil => rfl
   | cons i l =>
     have : i ∈ Region.ready .any ops listed := by rw [hr0]; simp
     obtain ⟨h1, o, ho, _⟩ := mem_ready.1 this
     have hlt : i < ops.size := (Array.getElem?_eq_some_iff.1 ho).1
     have h2 := hall i hlt
     have hlt2 : i < listed.size := by omega
     simp [hlt2] at h1 h2; rw [h1] at h2; cases h2
 | succ fuel ih =>
   intro listed a w hsz hu hcl h
   refine ⟨fun hr0 => fin listed a w (least listed hsz hcl hr0) h, fun i hi => ?_⟩
   obtain ⟨hun, o, ho, hdeps⟩ := mem_ready.1 hi
   have hlt : i < ops.size := (Array.getElem?_eq_some_iff.1 ho).1
   have hlt2 : i < listed.size := by omega
   have hunf : listed.getD i false = false := by simp [hlt2] at hun ⊢; exact hun
   have hdeps' : ∀ e ∈ o.after, Region.binds .any e = true → listed.getD e.on false = true := hdeps
   have hbef := hsub listed hcl i o ho hdeps'
   have hcl' : ∀ j oj, ops[j]? = some oj → (listed.setIfInBounds i true).getD j false = true → ∀ e ∈ oj.after, Region.binds .any e = true → (listed.setIfInBounds i true).getD e.on false = true := by
    intro j oj hj hlj e he hbd
    rw [zBv hlt2] at hlj ⊢
    simp only [Bool.or_eq_true, beq_iff_eq] at hlj ⊢
    rcases hlj with g | g
    ·exact .inl (hcl j oj hj g e he hbd)
    ·subst g
     rw [ho] at hj; cases hj
     exact .inl (hdeps' e he hbd)
   have hu' : unl (listed.setIfInBounds i true).toList ≤ fuel := by
    have := unl_set listed.toList i (by simp [hlt2] at hunf ⊢; exact hunf)
    simp only [Array.toList_setIfInBounds]; omega
   have hafter : m ≤ i → ∀ j, j < ops.size → (listed.getD j false = true ↔ j < i) := by
    intro hmi j hj
    constructor
    ·intro hlj
     rcases Nat.lt_trichotomy j i with g | g | g
     ·exact g
     ·subst g; rw [hunf] at hlj; cases hlj
     ·exfalso
      have hoj : ops[j]? = some ops[j] := Array.getElem?_eq_getElem hj
      obtain ⟨oi, hoi, q⟩ := (zAz hB hoj).2 i g
      rcases q with q | q
      ·have := hsub listed hcl j _ hoj (hcl j _ hoj hlj) i q
       rw [hunf] at this; cases this
      ·omega
    ·intro hji
     obtain ⟨oi, hoi, q⟩ := (zAz hB ho).2 j hji
     rcases q with q | q
     ·exact hbef j q
     ·omega
   unfold wpOpIn
   rw [ho]
   by_cases him : i < m
   ·
    rcases h with ⟨h1, h2⟩ | ⟨i', s', h1, h2, h3, h4⟩
    ·obtain ⟨o', ho', hq⟩ := hst i him
     rw [ho] at ho'; cases ho'
     have ords : ∀ j, j < m → j ≠ i → ∀ t, t ∈ zC1 ops o → dstO ops j = some t → (listed.getD j false = true ↔ j < i) := by
      intro j hj hji t ht hd
      have hjs : j < ops.size := by omega
      have hoj : ops[j]? = some ops[j] := Array.getElem?_eq_getElem hjs
      have hdj : ops[j].dst = some t := by simpa [dstO, hoj] using hd
      constructor
      ·intro hlj
       rcases Nat.lt_or_ge j i with g | g
       ·exact g
       ·exfalso
        obtain ⟨oi, hoi, q⟩ := (zAz hB hoj).2 i (by omega)
        rw [ho] at hoi; cases hoi
        rcases q with q | q
        ·have := hsub listed hcl j _ hoj (hcl j _ hoj hlj) i q
         rw [hunf] at this; cases this
        ·exact (zE2 q.2).2 t hdj ht
      ·intro g
       obtain ⟨oi, hoi, q⟩ := (zAz hB ho).2 j g
       rw [hoj] at hoi; cases hoi
       rcases q with q | q
       ·exact hbef j q
       ·exact absurd ht ((zE2 q.2).1 t hdj)
     have hlook : ∀ t ∈ o.looksAt ops, sig ops (s.slot C.pers) ds (fun _ => true) i t = sig ops (s.slot C.pers) ds (fun j => listed.getD j false) m t := by
      intro t ht
      have ht' : t ∈ zC1 ops o := by simp [zC1, ht]
      have e1 : sig ops (s.slot C.pers) ds (fun j => listed.getD j false) m t = sig ops (s.slot C.pers) ds (fun j => listed.getD j false) i t := by
       refine zD1 m (by omega) fun j g1 g2 g3 hd => ?_
       by_cases hji : j = i
       ·subst hji; rw [hunf] at g3; cases g3
       ·have := (ords j g2 hji t ht' hd).1 g3; omega
      rw [e1]
      exact zEg i fun j hj hd => ((ords j (by omega) (by omega) t ht' hd).2 hj).symm
     obtain ⟨o', x, r1, r2, r3⟩ := zC9 _ _ i ros hr hlt
     rw [Nat.zero_add, ho] at r1; cases r1
     have hx : ros[i]? = some x := by
      have := List.getElem?_drop (xs := ros) (i := i) (j := 0)
      rw [r3] at this; simpa using this.symm
     have hL : ∀ j, (listed.setIfInBounds i true).getD j false = (listed.getD j false || j == i) := fun j => zBv hlt2
     have hstep : StepQ C ops (F (fun j => listed.getD j false)) (F (fun j => (listed.setIfInBounds i true).getD j false)) (sig ops (s.slot C.pers) ds (fun _ => true) i) o (ds i) := by
      have e : (fun j => (listed.setIfInBounds i true).getD j false) = fun j => listed.getD j false || j == i := funext hL
      rw [e]
      exact hq _ hunf
     refine StepQ.sound hA (hstep.congr hlook) h2 fun a' w' hs' => ih _ a' w' (by simpa using hsz) hu' hcl' (.inl ⟨fun j hj => ?_, ?_⟩)
     ·rw [zBv hlt2] at hj
      simp only [Bool.or_eq_true, beq_iff_eq] at hj
      rcases hj with g | g
      ·exact h1 j g
      ·omega
     ·have e2 : sig ops (s.slot C.pers) ds (fun j => (listed.setIfInBounds i true).getD j false) m = updO (sig ops (s.slot C.pers) ds (fun j => listed.getD j false) m) (dstO ops i) (ds i) := by
       rw [← sig_set him hunf]
       ·congr 1; funext j; exact zBv hlt2
       ·intro j t g1 g2 g3 g4 g5
        cases hb : listed.getD j false with
        | false => rfl
        | true =>
          have hoi : o.dst = some t := by simpa [dstO, ho] using g3
          have := (ords j g1 g2 t (by simp [zC1, hoi]) g4).1 hb
          omega
      rw [e2]
      have : dstO ops i = o.dst := by simp [dstO, ho]
      rw [this]; exact hs'
    ·exfalso
     have := (h2 i hlt).2 (by omega)
     rw [hunf] at this; cases this
   ·
    have hmi : m ≤ i := by omega
    have hiff := hafter hmi
    obtain ⟨s', hs', hk'⟩ : ∃ s', Sim C w0 B s' a w ∧ opsWp C.M (ros.drop i) K s' := by
     rcases h with ⟨h1, h2⟩ | ⟨i', s', h1, h2, h3, h4⟩
     ·have hie : i = m := by
       rcases Nat.lt_or_ge m i with g | g
       ·have := h1 m ((hiff m (by omega)).2 g); omega
       ·omega
      subst hie
      exact ⟨s1, conv listed a w h1 (fun j hj => (hiff j (by omega)).2 hj) h2, hk1⟩
     ·have hie : i' = i := by
       rcases Nat.lt_trichotomy i' i with g | g | g
       ·have q1 := (hiff i' (by omega)).2 g
        have := (h2 i' (by omega)).1 q1; omega
       ·exact g
       ·have := (h2 i hlt).2 g; rw [hunf] at this; cases this
      subst hie
      exact ⟨s', h3, h4⟩
    obtain ⟨o', x, g1, g2, g3⟩ := zC9 _ _ i ros hr hlt
    rw [Nat.zero_add, ho] at g1; cases g1
    rw [g3] at hk'
    refine head_sound hA g2 (K := opsWp C.M (ros.drop (i + 1)) K) (fun s'' a' w' q1 q2 => ih _ a' w' (by simpa using hsz) hu' hcl' (.inr ⟨i + 1, s'', by omega, fun j hj => ?_, q2, q1⟩)) hk' hs'
    rw [zBv hlt2]
    simp only [Bool.or_eq_true, beq_iff_eq]
    have := hiff j hj
    constructor
    ·rintro (q | q)
     ·have := this.1 q; omega
     ·omega
    ·intro q
     by_cases e : j = i
     ·exact .inr e
     ·exact .inl (this.2 (by omega))
def AnyF (M : Mod) (F : (Nat → Bool) → Hp) (i : Nat) (oc : OC) (ds : List D) (d : D) : Prop := ∀ E : Nat → Bool, E i = false → OcWp M oc ds (F E) (fun d' hp' => d' = d ∧ hp' = F (fun j => E j || j == i))
def Still (F : (Nat → Bool) → Hp) (i : Nat) : Prop := ∀ E : Nat → Bool, E i = false → F (fun j => E j || j == i) = F E
def headF (M : Mod) (F : (Nat → Bool) → Hp) (i : Nat) (o : RO) (K : St → Prop) (s : St) : Prop :=
 match o.guard with
 | none => ∃ d, AnyF M F i o.oc (o.args.map s.get) d ∧ K (s.put o.dst d)
 | some (g, want) =>
   match s.get g with
   | .bool b => (b = want → ∃ d, AnyF M F i o.oc (o.args.map (s.setO g (.bool want)).get) d ∧ K ((s.setO g (.bool want)).put o.dst d)) ∧
    (b = (!want) → Still F i ∧ K ((s.setO g (.bool (!want))).put o.dst .skip))
   | .skip => Still F i ∧ K (s.put o.dst .skip)
   | _ => False
def opsF (M : Mod) (F : (Nat → Bool) → Hp) : Nat → List (RO × Bool) → (St → Prop) → St → Prop
 | j, [], K, s => K { s with hp := F (fun k => decide (k < j)) }
 | i, (o, _) :: r, K, s => headF M F i o (opsF M F (i + 1) r K) s
theorem headF_step {ops : Array Oper} {o : Oper} {x : RO} {K : St → Prop} {s : St} (h1 : zDa C ops o = some x) (hl : s.env.length = C.pers.length) {F : (Nat → Bool) → Hp} {i : Nat} (h : headF C.M F i x K s) :
 ∃ d s1, K s1 ∧ s1.hp = s.hp ∧ s1.env.length = C.pers.length ∧ (∀ E : Nat → Bool, E i = false → StepQ C ops (F E) (F (fun j => E j || j == i)) (s.slot C.pers) o d) ∧ s1.slot C.pers = updO (s.slot C.pers) o.dst d := by
 unfold zDa at h1
 cases hres : zAw C.P o.op with
 | none => simp [hres] at h1
 | some p =>
   obtain ⟨oc, ys⟩ := p
   cases ha : resOs C ys with
   | none => simp [hres, ha] at h1
   | some args =>
     cases hd : zB5 C o.dst with
     | none => simp [hres, ha, hd] at h1
     | some dst =>
       cases hg : zB3 C ops o.guard with
       | none => simp [hres, ha, hd, hg] at h1
       | some guard =>
         simp [hres, ha, hd, hg] at h1; subst h1
         cases hog : o.guard with
         | none =>
           simp [hog, zB3] at hg; subst hg
           simp only [headF] at h
           obtain ⟨d, h2, h3⟩ := h
           rw [map_evO ha] at h2
           exact ⟨d, _, h3, zDh _ _ _, by rw [zBl]; exact hl, fun E hE => ⟨oc, ys, hres, ⟨_, ha⟩, ⟨_, hd⟩, .inl ⟨hog, h2 E hE⟩⟩, zDg hd hl _⟩
         | some p =>
           obtain ⟨j, want⟩ := p
           simp only [hog, zB3] at hg
           cases hj : (ops[j]?).bind (·.dst) with
           | none => simp [hj] at hg
           | some t =>
             simp only [hj] at hg
             cases hgo : resO C (.tmp t) with
             | none => simp [hgo] at hg
             | some g =>
               simp [hgo] at hg; subst hg
               have htn := (zDf hgo).2
               simp only [headF] at h
               have hsl : s.slot C.pers t = s.get g := (zF1 hgo).symm
               cases hb : s.get g <;> simp only [hb] at h
               case bool b =>
                by_cases e : b = want
                ·subst e
                 obtain ⟨d, h2, h3⟩ := h.1 rfl
                 rw [map_evO ha, zDp hgo hl hb] at h2
                 refine ⟨d, _, h3, by rw [zDh, zDm], by rw [zBl]; simpa [zCf] using hl, fun E hE => ⟨oc, ys, hres, ⟨_, ha⟩, ⟨_, hd⟩, .inr ⟨j, b, t, hog, hj, htn, .inl ⟨by rw [hsl, hb], h2 E hE⟩⟩⟩, ?_⟩
                 rw [zDg hd (by simpa [zCf] using hl), zDp hgo hl hb]
                ·have e' : b = (!want) := by cases b <;> cases want <;> simp_all
                 subst e'
                 refine ⟨.skip, _, (h.2 rfl).2, by rw [zDh, zDm], by rw [zBl, zCf]; exact hl, fun E hE => ⟨oc, ys, hres, ⟨_, ha⟩, ⟨_, hd⟩, .inr ⟨j, want, t, hog, hj, htn, .inr (.inl ⟨by rw [hsl, hb], rfl, (h.2 rfl).1 E hE⟩)⟩⟩, ?_⟩
                 rw [zDg hd (by rw [zCf]; exact hl), zDp hgo hl hb]
               case skip =>
                exact ⟨.skip, _, h.2, zDh _ _ _, by rw [zBl]; exact hl, fun E hE => ⟨oc, ys, hres, ⟨_, ha⟩, ⟨_, hd⟩, .inr ⟨j, want, t, hog, hj, htn, .inr (.inr ⟨by rw [hsl, hb], rfl, h.1 E hE⟩)⟩⟩, zDg hd hl _⟩
theorem opsF_trace {ops : Array Oper} {K : St → Prop} {F : (Nat → Bool) → Hp} : ∀ (len k : Nat) (ros : List RO) (qs : List (RO × Bool)) (s : St), zBf C ops (List.range' k len) = some ros → qs.map (·.1) = ros → s.env.length = C.pers.length → opsF C.M F k qs K s →
 ∃ (ds : Nat → D) (σ : Nat → Nat → D) (s1 : St), K s1 ∧ s1.hp = F (fun j => decide (j < k + len)) ∧ s1.env.length = C.pers.length ∧ σ k = s.slot C.pers ∧ σ (k + len) = s1.slot C.pers ∧
  ∀ i, k ≤ i → i < k + len → ∃ o, ops[i]? = some o ∧ (∀ E : Nat → Bool, E i = false → StepQ C ops (F E) (F (fun j => E j || j == i)) (σ i) o (ds i)) ∧ σ (i + 1) = updO (σ i) o.dst (ds i)
 | 0, k, ros, qs, s, hr, hqs, hl, h => by
   simp [zBf] at hr; subst hr
   have : qs = [] := by simpa using hqs
   subst this
   exact ⟨fun _ => .u0, fun _ => s.slot C.pers, _, h, rfl, hl, rfl, rfl, fun i h1 h2 => by omega⟩
 | len + 1, k, ros, qs, s, hr, hqs, hl, h => by
   rw [List.range'_succ] at hr
   obtain ⟨o, x, xs, ho, h1, h2, rfl⟩ := zCq hr
   cases qs with
   | nil => simp at hqs
   | cons p qs =>
     obtain ⟨x', q⟩ := p
     simp only [List.map_cons, List.cons.injEq] at hqs
     obtain ⟨rfl, hqs⟩ := hqs
     simp only [opsF] at h
     obtain ⟨d, s1, k1, _, k3, k4, k5⟩ := headF_step h1 hl h
     obtain ⟨ds, σ, s2, g1, g2, g3, g4, g5, g6⟩ := opsF_trace len (k + 1) xs qs s1 h2 hqs k3 k1
     refine ⟨fun i => if i = k then d else ds i, fun i => if i = k then s.slot C.pers else σ i, s2, g1, ?_, g3, by simp, ?_, fun i h1 h2 => ?_⟩
     ·rw [g2]; congr 1; funext j; congr 1; exact propext ⟨fun _ => by omega, fun _ => by omega⟩
     ·have : k + (len + 1) ≠ k := by omega
      simp only [this, if_false]
      rw [← g5]; congr 1; omega
     ·by_cases ek : i = k
      ·subst ek
       refine ⟨o, ho, ?_, ?_⟩
       ·simpa using k4
       ·simp [g4, k5]
      ·obtain ⟨o', q1, q2, q3⟩ := g6 i (by omega) (by omega)
       have e2 : i + 1 ≠ k := by omega
       exact ⟨o', q1, by simpa [ek] using q2, by simpa [ek, e2] using q3⟩
theorem zBx {Q : Ex → St → Prop} {s : St} {qs : List (RO × Bool)} {ros : List RO} (F : (Nat → Bool) → Hp) (h0 : F (fun _ => false) = s.hp) (h : opsF C.M F 0 qs (fun s1 => opsWp C.M ros (fun s' => Q .normal s'.done) s1) s) : SWp C (.regD qs ros) Q s := by
 refine ⟨fun c hc w0 B hA a w hs => ?_⟩
 have hreg : ∀ id ops d, c = .region id ops d → _ := fun id ops d e => zAv (e ▸ hc)
 cases c <;> (try simp only [zAc] at hc) <;> (try (cases hc; done))
 case region id ops d =>
  rcases hreg _ _ _ rfl with ⟨r, h1, _⟩ | ⟨r, h1, rfl, hB1, hB2, hr⟩ | h1
  ·cases h1
  ·cases h1
   have hB := And.intro hB1 hB2
   ·skip
    rw [List.range_eq_range'] at hr
    have hl : s.env.length = C.pers.length := by obtain ⟨_, _, _, _, _, q, _⟩ := hs; exact q
    have hrl : zCc ops ≤ r.length := by rw [zCg _ _ hr]; simpa using zDo ops
    obtain ⟨ds, σ, s1, k1, k2, k3, k4, k5, k6⟩ := opsF_trace (zCc ops) 0 _ _ s (zFg _ _ 0 _ hr (zDo ops)) (flags_fst hrl) hl h
    have hsig : ∀ i, i ≤ zCc ops → σ i = sig ops (s.slot C.pers) ds (fun _ => true) i := by
     intro i
     induction i with
     | zero => intro _; exact k4
     | succ i ih =>
       intro hi
       obtain ⟨o, q1, _, q3⟩ := k6 i (Nat.zero_le _) (by omega)
       rw [q3, ih (by omega)]
       simp [sig, dstO, q1]
    refine fun ro => wpIn_region_any hB.2 (draw_soundF ⟨hA, lift_pq⟩ (s := s) (s1 := s1) (K := fun s' => Q .normal s'.done) (ds := ds) (F := F) (m := zCc ops) (ros := r) hB.1 (zDo ops) hr (fun s a w hk hs => ⟨s.done, zEc _ _ _ _ hs, hk⟩) hl k1 (by rw [k2, Nat.zero_add]) k3 (fun i hi => ?_) ?_ ops.size _ a _ (by simp) ?_ ?_ (.inl ⟨?_, ?_⟩))
    ·obtain ⟨o, q1, q2, _⟩ := k6 i (Nat.zero_le _) (by omega)
     rw [hsig i (by omega)] at q2
     exact ⟨o, q1, q2⟩
    ·rw [← hsig _ (Nat.le_refl _), ← k5, Nat.zero_add]
    ·simp only [unl, Array.toList_replicate]
     exact Nat.le_trans (List.length_filter_le _ _) (by simp)
    ·intro j oj hj hlj
     exfalso
     have : (Array.replicate ops.size false).getD j false = false := by
      simp only [Array.getD_eq_getD_getElem?, Array.getElem?_replicate]; split <;> rfl
     rw [this] at hlj; cases hlj
    ·intro j hlj
     exfalso
     have : (Array.replicate ops.size false).getD j false = false := by
      simp only [Array.getD_eq_getD_getElem?, Array.getElem?_replicate]; split <;> rfl
     rw [this] at hlj; cases hlj
    ·obtain ⟨G, g0, gb, g1, g2, g3, g4⟩ := hs
     have hrep : ∀ j, (Array.replicate ops.size false).getD j false = false := by
      intro j
      simp only [Array.getD_eq_getD_getElem?, Array.getElem?_replicate]; split <;> rfl
     have e1 : sig ops (s.slot C.pers) ds (fun j => (Array.replicate ops.size false).getD j false) (zCc ops) = s.slot C.pers := by
      funext t
      exact zD1 (ops := ops) (σ0 := s.slot C.pers) (ds := ds) (E := fun j => (Array.replicate ops.size false).getD j false) (t := t) (a := 0) (zCc ops) (Nat.zero_le _) (fun j _ _ hE => by
       rw [hrep] at hE; cases hE)
     have e3 : (fun j => (Array.replicate ops.size false).getD j false) = fun _ => false := funext hrep
     rw [e1, e3, h0]
     obtain ⟨q1, q2⟩ := g0.drawn (w.drawn + 1)
     exact ⟨G, q1, gb, g1, g2, fun t => Rel.evo _ q2 (g4 t)⟩
  ·cases h1
 all_goals exfalso; (repeat' split at hc) <;> simp_all
end
section
variable {M : Mod} {F : (Nat → Bool) → Hp} {i : Nat} {dst : Dst} {q : Bool} {r : List (RO × Bool)} {K : St → Prop} {s : St} {oc : OC} {args : List Opd}
theorem y_end {hp' : Hp} (hh : F (fun k => decide (k < i)) = hp') (h : K { s with hp := hp' }) : opsF M F i [] K s := by subst hh; exact h
theorem y_op (d : D) (h1 : AnyF M F i oc (args.map s.get) d) (h : opsF M F (i + 1) r K (s.put dst d)) : opsF M F i ((⟨dst, oc, args, none⟩, q) :: r) K s := ⟨d, h1, h⟩
theorem any_still {ds : List D} {d : D} (hF : Still F i) (h : ∀ hp2, OcWp M oc ds hp2 (fun d' hp' => d' = d ∧ hp' = hp2)) : AnyF M F i oc ds d := fun E hE => by rw [hF E hE]; exact h _
theorem y_q {ds : List D} (d : D) (ha : args.map s.get = ds) (hF : Still F i) (ho : ∀ hp2, OcWp M oc ds hp2 (fun d' hp' => d' = d ∧ hp' = hp2)) (h : opsF M F (i + 1) r K (s.put dst d)) : opsF M F i ((⟨dst, oc, args, none⟩, q) :: r) K s :=
 y_op d (by rw [ha]; exact any_still hF ho) h
theorem y_c {ds : List D} {d : D} (ha : args.map s.get = ds) (h1 : AnyF M F i oc ds d) (h : opsF M F (i + 1) r K (s.put dst d)) : opsF M F i ((⟨dst, oc, args, none⟩, q) :: r) K s :=
 y_op d (by rw [ha]; exact h1) h
end
end GoV
end
section
set_option linter.unusedSimpArgs false
set_option linter.unusedVariables false
namespace GoV
open Go
def St.sel (s : St) (bl tl : List Nat) : St := ⟨D.rnL (posF bl) (posF tl) s.env, [], s.hp.sel bl tl⟩
end GoV
end
section
set_option linter.unusedSimpArgs false
set_option linter.unusedVariables false
namespace GoV
open Go
theorem call_same {M : Mod} {f : FuncId} {first cap args : List D} {hp : Hp} {K R : D → Hp → Prop} (h : Eff M f (first ++ args ++ cap) hp R) (hk : ∀ d hp1, R d hp1 → K d hp1) : CallOp M (.fn (.func f) first cap :: args) hp K := by
 intro w0 B w G vs hA hi hr
 obtain ⟨fv, av, rfl, h1, h2⟩ := hr.inv
 simp only [Rel] at h1
 obtain ⟨xs, ys, rfl, h3, h4⟩ := h1
 refine .inl ⟨f, xs.toArray, ys.toArray, av, rfl, h.1, ?_⟩
 have hamb : M.amb w G.own := M.up _ _ _ _ hA.1 hi.keeps fun n hn => hi.new n hn
 have hcall := h.2 w G (xs ++ av ++ ys) hamb hi.heap ((h3.append h2).append h4)
 have e : (xs.toArray ++ av.toArray ++ ys.toArray) = (xs ++ av ++ ys).toArray := by simp
 rw [e]
 refine Calls.mono hcall fun e w' hp' => ?_
 obtain ⟨v, d, hp1, g1, rfl, hR, g3, g4⟩ := hp'
 exact ⟨v, d, hp1, g1, rfl, hk d hp1 hR, hi.join g3, g3.evo, g4⟩
mutual
def D.nn : D → D
 | .slice es o => .slice (D.nnL es) o
 | .agg cs => .agg (D.nnL cs)
 | .tup vs => .tup (D.nnL vs)
 | .lit (.slice none 0 0) => .slice [] .no
 | d => d
def D.nnL : List D → List D
 | [] => []
 | d :: ds => D.nn d :: D.nnL ds
end
mutual
theorem Rel.nn {w : World} {g : Gh} : ∀ (d : D) {x : Value}, Rel w g d x → Rel w g d.nn x
 | .slice es o, x, h => by
   simp only [D.nn]
   simp only [Rel] at h ⊢
   have hl : (D.nnL es).length = es.length := nnL_length es
   obtain ⟨a, cap, k, xs, h1, h2, h3, h4, h5, h6⟩ := h
   refine ⟨a, cap, k, xs, ?_, by rw [hl]; exact h2, RelL.nn es h3, h4, h5, by rw [hl]; exact h6⟩
   rcases h1 with h1 | ⟨h1, rfl, h8⟩
   ·exact .inl (by rw [hl]; exact h1)
   ·exact .inr ⟨h1, rfl, h8⟩
 | .agg cs, x, h => by
   simp only [D.nn]
   simp only [Rel] at h ⊢
   obtain ⟨xs, h1, h2, h3⟩ := h
   exact ⟨xs, h1, RelL.nn cs h2, h3⟩
 | .tup cs, x, h => by
   simp only [D.nn]
   simp only [Rel] at h ⊢
   obtain ⟨xs, h1, h2⟩ := h
   exact ⟨xs, h1, RelL.nn cs h2⟩
 | .lit v, x, h => by
   unfold D.nn
   split
   iterate 3
    ·simp_all
   ·rename_i e
    simp only [D.lit.injEq] at e
    subst e
    simp only [Rel] at h ⊢
    obtain ⟨rfl, _⟩ := h
    exact ⟨⟨0, 0, none⟩, 0, 0, [], .inr ⟨by simp, by simp, rfl⟩, by simp, RelL.nil, by simp, At.nil, trivial⟩
   ·exact h
 | .u0, x, h => h
 | .skip, x, h => h
 | .int _ _, x, h => h
 | .bool _, x, h => h
 | .str _, x, h => h
 | .iface _ _, x, h => h
 | .fn _ _ _, x, h => h
 | .ptr _ _, x, h => h
 | .ip _, x, h => h
 | .sl _ _ _ _ _, x, h => h
 | .gs _ _, x, h => h
 | .gp _ _ _, x, h => h
 | .mp _, x, h => h
theorem RelL.nn {w : World} {g : Gh} : ∀ (ds : List D) {xs : List Value}, RelL w g ds xs → RelL w g (D.nnL ds) xs
 | [], xs, h => h
 | d :: ds, xs, h => by
   obtain ⟨y, ys, rfl, h1, h2⟩ := h.inv
   exact RelL.cons (Rel.nn d h1) (RelL.nn ds h2)
theorem nnL_length : ∀ ds : List D, (D.nnL ds).length = ds.length
 | [] => rfl
 | d :: ds => by simp [D.nnL, nnL_length ds]
end
theorem pur_res {M : Mod} {f : FuncId} {args : List D} {d d' : D} (h : Pur M f args d) (e : d.nn = d') : Pur M f args d' :=
 ⟨h.1, fun w g xs hA hh hr => Calls.mono (h.2 w g xs hA hh hr) fun en w' ⟨v, d1, hp1, g1, e1, ⟨e2, e3⟩, h1, h2⟩ => ⟨v, d', hp1, g1, e1, ⟨rfl, e3⟩, h1, by subst e2; subst e; exact Rel.nn _ h2⟩⟩
section
variable {P : Mod} {dst : Dst} {r : List RO} {rq : List (RO × Bool)} {K : St → Prop} {s : St} {ds : List D}
theorem o_same {f : FuncId} {first cap args : List D} {hp0 hp1 : Hp} {d : D} (h : Eff P f args hp0 fun d' hp' => d' = d ∧ hp' = hp1) (he : first ++ ds ++ cap = args) (hh : s.hp = hp0)
 (hk : opsWp P r K ({ s with hp := hp1 }.put dst d)) : OpS P .call (.fn (.func f) first cap :: ds) dst r K s := by
 unfold OpS OcWp
 simp only [zAa, if_true]
 subst he; subst hh
 exact call_same h (by rintro d' hp' ⟨rfl, rfl⟩; exact hk)
end
end GoV
end
section
set_option linter.unusedSimpArgs false
set_option linter.unusedVariables false
namespace GoV
open Go
end GoV
end
section
set_option linter.unusedSimpArgs false
set_option linter.unusedVariables false
namespace GoV
open Go
section
variable {C : Cfg} {x y : RC} {s s' : St} {i j : Nat}
end
end GoV
end
section
set_option linter.unusedSimpArgs false
set_option linter.unusedVariables false
set_option maxHeartbeats 1000000
namespace GoV
open Go
section
variable {P : Program} {ρ : Operand → Value} {o : Oper} {w0 : World} {g0 : Gh} {hp : Hp} {w : World} {g : Gh} {K : D → Hp → Prop}
theorem done_newG {t : TypeId} {z : List D} {tt : Nat} (hop : o.op = .alloc t) (hz : zB4 P t = some z) (hi : Inv w0 g0 hp w g) (hpos : 0 < z.length) (hV : hp.tk[tt]? = some (.chg z.length []))
 (h : K (.gp tt 1 0) { hp with tk := hp.tk.set tt (.chg z.length z) }) : Done P ρ o w0 g0 w g K := by
 obtain ⟨i, zv, h1, h2, h3⟩ := zB8 hz
 obtain ⟨f1, f2⟩ := zC4 (w := w) (g := g) h3
 obtain ⟨T, hgT, ⟨hk, hcs, hn0, hIb⟩, hok⟩ := hi.heap.tokBlk hV
 have hT0 : T.len = 0 := by
  rcases Nat.eq_zero_or_pos T.len with q | q
  ·exact q
  ·have := Nat.mul_pos q hok.1
   simp only [List.length_nil] at hcs
   omega
 have hlen : zv.cells.toList.length = z.length := f1.length
 obtain ⟨q1, q2⟩ := hi.goTok (w' := w.alloc (.cells zv.cells.toList.toArray t (0, 0))) (T' := ⟨some w.heap.size, some ⟨w.heap.size, 0, none⟩, 1, T.k, 1⟩) (I' := g.I) (V' := .chg z.length z) hgT rfl (.inr (by simp only [hT0]; omega))
  (fun n hlt _ => zAy w _ n hlt) (by simp) rfl rfl rfl (fun n hn => by simp at hn; subst hn; exact .inr (Nat.le_refl _)) (fun c o ho => ⟨ho, cell_of_heap (zAy w _ c (hi.heap.imm c o ho).1)⟩) (fun c o ho => .inl ho)
  ⟨hok.1, by simp, fun c hc => by simp at hc; subst hc; exact ⟨rfl, fun hm => by have := hi.heap.lt _ hm; omega, Nat.le_refl _, _, t, zBi w _, by rw [List.size_toArray, hlen, ← hk]; simp, by simpa using f2⟩⟩
  (fun he => ⟨hk, by simp only [hk]; omega, by simp, fun c hc => by
   simp at hc; subst hc
   refine ⟨fun o ho => ?_, _, t, zBi w _, ?_⟩
   ·have := (hi.heap.imm _ o ho).1; omega
   ·have e : (zv.cells.toList.toArray.toList.take (1 * T.k)) = zv.cells.toList := by
     rw [List.toList_toArray, Nat.one_mul, ← hk, ← hlen, List.take_length]
    rw [e]
    exact RelL.evo _ he f1.any⟩)
 refine ⟨_, _, _, .pointer (some ⟨w.heap.size, 0, none⟩), _, h, q1, q2, ?_, .inl ?_⟩
 ·simp only [Rel]
  exact ⟨_, _, rfl, zD2 hgT, Nat.le_refl _, fun _ => ⟨_, rfl, rfl⟩⟩
 ·simp [execOp, hop, Instr.alloc, zeroValue, typeInfo, h1, h2, newVar, newRow]
end
theorem resolve_newb {P : Program} {op : Op} {z : List D} {xs : List Operand} (h : zAw P op = some (.newb z, xs)) : ∃ t, op = .alloc t ∧ zB4 P t = some z := by
 cases op <;> simp only [zAw] at h <;> try (cases h; done)
 case alloc t =>
  cases hz : zB4 P t with
  | none => simp [hz] at h
  | some z' =>
    simp only [hz, Option.map_some, Option.some.injEq, Prod.mk.injEq] at h
    obtain ⟨h, _⟩ := h
    split at h
    ·cases h
    ·cases h; exact ⟨t, rfl, hz⟩
 all_goals exfalso
 case convert => simp only [Option.map_eq_some_iff, Prod.mk.injEq] at h; obtain ⟨oc, h1, rfl, _⟩ := h; unfold resCv at h1; (repeat' split at h1) <;> simp at h1
 case buildSlice => simp only [Option.map_eq_some_iff, Prod.mk.injEq] at h; obtain ⟨oc, h1, rfl, _⟩ := h; unfold resBsl at h1; (repeat' split at h1) <;> simp at h1
 case makeSlice => simp only [Option.map_eq_some_iff, Prod.mk.injEq] at h; obtain ⟨oc, h1, rfl, _⟩ := h; unfold resMks at h1; (repeat' split at h1) <;> simp at h1
 case slice =>
  split at h
  ·simp only [Option.map_eq_some_iff, Prod.mk.injEq] at h; obtain ⟨oc, h1, rfl, _⟩ := h; unfold resSlc at h1; (repeat' split at h1) <;> simp at h1
  ·split at h
   ·simp only [Option.map_eq_some_iff, Prod.mk.injEq] at h; obtain ⟨oc, h1, h2, _⟩ := h; cases h2
   ·cases h
 case call c =>
  simp only [zFi] at h
  cases hc : c.callee with
  | value g => simp [hc] at h
  | invoke r m => simp [hc] at h
  | builtin b =>
    cases b <;> simp only [hc] at h <;> try (cases h; done)
    all_goals (repeat' split at h) <;> simp_all
 all_goals try unfold resBin at h
 all_goals (repeat' split at h) <;> simp_all
def Fill (oc : OC) (ds : List D) (hp hp1 : Hp) (d : D) : Prop :=
 ∃ z t, oc = .newb z ∧ ds = [] ∧ 0 < z.length ∧ hp.tk[t]? = some (.chg z.length []) ∧ d = .gp t 1 0 ∧ hp1 = { hp with tk := hp.tk.set t (.chg z.length z) }
def OcG (M : Mod) (oc : OC) (ds : List D) (hp hp1 : Hp) (d : D) : Prop := OcWp M oc ds hp (fun d' hp' => d' = d ∧ hp' = hp1) ∨ Fill oc ds hp hp1 d
def StepG (C : Cfg) (ops : Array Oper) (hp hp1 : Hp) (σ : Nat → D) (o : Oper) (d : D) : Prop :=
 ∃ oc xs, zAw C.P o.op = some (oc, xs) ∧ (∃ ys, resOs C xs = some ys) ∧ (∃ ds, zB5 C o.dst = some ds) ∧
  ((o.guard = none ∧ OcG C.M oc (xs.map (evO σ)) hp hp1 d) ∨
   ∃ j want t, o.guard = some (j, want) ∧ (ops[j]?).bind (·.dst) = some t ∧ t < C.nt ∧
    ((σ t = .bool want ∧ OcG C.M oc (xs.map (evO σ)) hp hp1 d) ∨ (σ t = .bool (!want) ∧ d = .skip ∧ hp1 = hp) ∨ (σ t = .skip ∧ d = .skip ∧ hp1 = hp)))
section
variable {C : Cfg} {w0 : World} {B : Gh}
theorem StepG.congr {ops : Array Oper} {hp hp1 : Hp} {σ σ' : Nat → D} {o : Oper} {d : D} (h : StepG C ops hp hp1 σ o d) (hs : ∀ t ∈ o.looksAt ops, σ t = σ' t) : StepG C ops hp hp1 σ' o d := by
 obtain ⟨oc, xs, h1, h2, h3, h4⟩ := h
 have hm : xs.map (evO σ) = xs.map (evO σ') := by
  refine List.map_congr_left fun x hx => ?_
  have := resolve_sub h1 x hx
  cases x with
  | tmp t =>
    refine hs t ?_
    simp only [Oper.looksAt, List.mem_append, List.mem_filterMap]
    exact .inl ⟨.tmp t, by simpa using this, rfl⟩
  | _ => rfl
 refine ⟨oc, xs, h1, h2, h3, ?_⟩
 rw [← hm]
 rcases h4 with h4 | ⟨j, want, t, g1, g2, g3, g4⟩
 ·exact .inl h4
 ·refine .inr ⟨j, want, t, g1, g2, g3, ?_⟩
  rw [← hs t (by simp [Oper.looksAt, g1, g2])]
  exact g4
theorem StepG.sound {ro : Option Nat} {Q : Exit → Act → World → Prop} (hA : C.M.start w0 B ∧ PQ C w0 B Q) {ops : Array Oper} {hp hp1 : Hp} {σ : Nat → D} {o : Oper} {d : D} {next : Act → World → Prop} (h : StepG C ops hp hp1 σ o d) {a : Act} {w : World} (hs : SimF C w0 B σ hp a w)
 (ih : ∀ a w, SimF C w0 B (updO σ o.dst d) hp1 a w → next a w) :
 if Region.wanted o (yielded ops a.tmps) then o.wpIn (FR ro) 0 C.P a w next Q else (∀ f, o.about C.P w a.eval = some f → (FR ro).fn f) ∧ next (a.put o.dst Go.undef) w := by
 obtain ⟨oc, xs, h1, ⟨ys, h2⟩, ⟨ds, h3⟩, h4⟩ := h
 obtain ⟨G, hi, gb, g1, g2, g4⟩ := hs
 have run : OcG C.M oc (xs.map (evO σ)) hp hp1 d → o.wpIn (FR ro) 0 C.P a w next Q := by
  rintro (hoc | ⟨z, t, rfl, _, hpos, hV, rfl, rfl⟩)
  ·refine OcWp_sound h1 hA.1 hi (rel_evO g4 h2) hoc (fun ch w' hp => hA.2 _ _ _ g2 hp) ?_
   rintro d' hp' G' v w' ⟨rfl, rfl⟩ k2 k3 k4
   refine ih _ _ ⟨G', k2, gb, by rw [zBd]; exact g1, by rw [zC7]; exact g2, ?_⟩
   exact zFo (fun t => Rel.evo _ k3 (g4 t)) g1 h3 k4
  ·obtain ⟨ty, hop, hz⟩ := resolve_newb h1
   obtain ⟨d', hp', G', v, w', ⟨rfl, rfl⟩, k2, k3, k4, k5⟩ := done_newG (ρ := a.eval) (o := o) (K := fun d' hp' => d' = .gp t 1 0 ∧ hp' = { hp with tk := hp.tk.set t (.chg z.length z) }) hop hz hi hpos hV ⟨rfl, rfl⟩
   have hnd : ∀ c, o.op ≠ .defer c := by
    intro c hc
    rw [hop] at hc; cases hc
   unfold Oper.wpIn
   rw [Oper.semAt_eq _ _ _ hnd]
   refine ⟨fun _ _ => trivial, ?_⟩
   have fin : next (a.put o.dst v) w' := ih _ _ ⟨G', k2, gb, by rw [zBd]; exact g1, by rw [zC7]; exact g2, zFo (fun t => Rel.evo _ k3 (g4 t)) g1 h3 k4⟩
   rcases k5 with k5 | ⟨k5, rfl⟩ <;> rw [k5] <;> exact fin
 have skp : d = .skip ∧ hp1 = hp → next (a.put o.dst Go.undef) w := by
  rintro ⟨rfl, rfl⟩
  refine ih _ _ ⟨G, hi, gb, by rw [zBd]; exact g1, by rw [zC7]; exact g2, ?_⟩
  exact zFo g4 g1 h3 (by simp [Rel])
 rcases h4 with ⟨hog, h4⟩ | ⟨j, want, t, hog, hj, htn, h4⟩
 ·simp only [Region.wanted, hog, if_true]; exact run h4
 ·have hlt : t < a.tmps.size := g1.symm ▸ htn
  have hy : yielded ops a.tmps j = match a.tmps.getD t Go.undef with | .bool b => some b | _ => none := by
   simp [yielded, hj, Array.getD_eq_getD_getElem?, hlt]
   cases a.tmps[t] <;> rfl
  have hrel := g4 t
  rcases h4 with ⟨e, h4⟩ | ⟨e, h4⟩ | ⟨e, h4⟩
  ·rw [e] at hrel; simp only [Rel] at hrel
   have : Region.wanted o (yielded ops a.tmps) = true := by
    simp only [Region.wanted, hog]; rw [hy, hrel]; cases want <;> rfl
   rw [this]; simp only [if_true]; exact run h4
  iterate 2
   ·rw [e] at hrel; simp only [Rel] at hrel
    have : Region.wanted o (yielded ops a.tmps) = false := by
     simp only [Region.wanted, hog]; rw [hy, hrel]; cases want <;> rfl
    rw [this]; simp only [Bool.false_eq_true, if_false]; exact ⟨fun _ _ => trivial, skp h4⟩
end
section
variable {M : Mod} {F : (Nat → Bool) → Hp} {L : List (Nat × Nat)} {i : Nat} {dst : Dst} {q : Bool} {r : List (RO × Bool)} {K : St → Prop} {s : St} {oc : OC} {args : List Opd}
end
end GoV
end
section
set_option linter.unusedSimpArgs false
set_option linter.unusedVariables false
namespace GoV
open Go
theorem Inv.grow {w0 g0 hp w g} (h : Inv w0 g0 hp w g) (os : Array Obj) : Inv w0 g0 hp (Go.Sort.grow w os) g ∧ Evo w g (Go.Sort.grow w os) g := by
 have hb : ∀ n, n < w.heap.size → (Go.Sort.grow w os).heap[n]? = w.heap[n]? := fun n hn => by
  show (w.heap ++ os)[n]? = w.heap[n]?
  rw [Array.getElem?_append_left hn]
 have he : Evo w g (Go.Sort.grow w os) g := ⟨fun b o' hi => ⟨hi, cell_of_heap (hb b (h.heap.imm b o' hi).1)⟩, fun _ _ h => h, fun _ T h => ⟨T, h, rfl, .inl rfl⟩⟩
 refine ⟨h.step (h.heap.other he rfl rfl (fun n hn => hb n (h.heap.own_lt n hn)) (by simp) fun b o ho => .inl ho) he ⟨rfl, rfl, rfl, by simp, fun b hb' _ => hb b hb'⟩ (fun n hn => .inl hn) (fun n hn => .inl hn) (fun b o ho => .inl ho), he⟩
section
variable {P : Mod} {r : List RO} {rq : List (RO × Bool)} {K : St → Prop} {s : St} {dst : Dst}
end
end GoV
end
section
set_option linter.unusedSimpArgs false
set_option linter.unusedVariables false
set_option maxHeartbeats 1000000
namespace GoV
open Go
end GoV
end
section
set_option linter.unusedSimpArgs false
set_option linter.unusedVariables false
namespace GoV
open Go
end GoV
end
section
set_option linter.unusedSimpArgs false
set_option linter.unusedVariables false
namespace GoV
open Go
theorem tw : 1 + 1 = 2 := rfl
theorem sd {W p : Prop} (ws : W) (h : W → p := by
 intro ws
 first | rfl | assumption | omega | ((first | refine ⟨?_, ?_⟩ | skip) <;> first | omega | (simp only [lN, ws] <;> omega)) | (simp [zAj, D.iV, D.cells, D.cL, D.closed, ws]; first | done | omega)) : p := h ws
theorem sh {W p : Prop} (ws : W) (h : W → p := by
 intro ws
 first | rfl | (simp [go_sem, seval, ws] <;> fail)) : p := h ws
theorem sc {W p : Prop} (ws : W) (h : W → p := by
 intro ws
 first | rfl | (simp [D.erL, D.er, D.cL, D.closed, ws] <;> fail)) : p := h ws
theorem sw {W p : Prop} (ws : W) (h : W → p := by
 intro ws
 first | omega | rfl | exact ⟨_, _, rfl⟩ | assumption | (simp only [lN, ws] <;> omega)) : p := h ws
theorem so {p : Prop} (h : p := by exact ⟨by simp, by simp, by simp, by simp⟩) : p := h
inductive SWi (C : Cfg) : RC → (Ex → St → Prop) → St → Prop
 | seq {x y : RC} {Q : Ex → St → Prop} {s : St} (h : SWp C x (fun e s' => match e with | .normal => SWp C y Q s' | e => Q e s') s) : SWi C (.seq x y) Q s
 | reg {ros : List RO} {Q : Ex → St → Prop} {s : St} (h : opsWp C.M ros (fun s' => Q .normal s'.done) s) : SWi C (.reg ros) Q s
 | regD {qs : List (RO × Bool)} {ros : List RO} {Q : Ex → St → Prop} {s : St} (h : opsQ C.M qs (fun s1 => opsWp C.M ros (fun s' => Q .normal s'.done) s1) s) : SWi C (.regD qs ros) Q s
 | block {id : Nat} {x : RC} {Q : Ex → St → Prop} {s : St} (h : SWp C x (fun e s' => match e with | .exit i => if i = id then Q .normal s' else Q (.exit i) s' | e => Q e s') s) : SWi C (.block id x) Q s
 | exit {id : Nat} {Q : Ex → St → Prop} {s : St} (h : Q (.exit id) s) : SWi C (.exit id) Q s
 | scope {x : RC} {Q : Ex → St → Prop} {s : St} (h : SWp C x Q s) : SWi C (.scope x) Q s
 | ret {Q : Ex → St → Prop} {s : St} (h : Q .ret s) : SWi C .ret Q s
 | skip {Q : Ex → St → Prop} {s : St} (h : Q .normal s) : SWi C .skip Q s
 | cd {g : Opd} {x y : RC} {Q : Ex → St → Prop} {s : St} (h : CdS C (s.get g) g x y Q s) : SWi C (.cond g x y) Q s
theorem swq {C : Cfg} {rc : RC} {Q : Ex → St → Prop} {s : St} (h : SWi C rc Q s) : SWp C rc Q s := by
 cases h with
 | seq h => exact swp_seq h
 | reg h => exact swp_reg h
 | regD h => exact swp_regD h
 | block h => exact swp_block h
 | exit h => exact swp_exit h
 | scope h => exact swp_scope h
 | ret h => exact swp_ret h
 | skip h => exact swp_skip h
 | cd h => exact swp_cd h
inductive CdI (C : Cfg) : D → Opd → RC → RC → (Ex → St → Prop) → St → Prop
 | dec {p : Prop} {_ : Decidable p} {g : Opd} {x y : RC} {Q : Ex → St → Prop} {s : St} (h1 : p → SWp C x Q (s.setO g (.bool true))) (h2 : ¬p → SWp C y Q (s.setO g (.bool false))) : CdI C (.bool (decide p)) g x y Q s
 | eq {a b : Int} {g : Opd} {x y : RC} {Q : Ex → St → Prop} {s : St} (h1 : a = b → SWp C x Q (s.setO g (.bool true))) (h2 : a ≠ b → SWp C y Q (s.setO g (.bool false))) : CdI C (.bool (a == b)) g x y Q s
 | ne {a b : Int} {g : Opd} {x y : RC} {Q : Ex → St → Prop} {s : St} (h1 : a ≠ b → SWp C x Q (s.setO g (.bool true))) (h2 : a = b → SWp C y Q (s.setO g (.bool false))) : CdI C (.bool (a != b)) g x y Q s
 | any {c : Bool} {g : Opd} {x y : RC} {Q : Ex → St → Prop} {s : St} (h1 : c = true → SWp C x Q (s.setO g (.bool true))) (h2 : c = false → SWp C y Q (s.setO g (.bool false))) : CdI C (.bool c) g x y Q s
theorem cdA {C : Cfg} {b : D} {g : Opd} {x y : RC} {Q : Ex → St → Prop} {s : St} (h : CdI C b g x y Q s) : CdS C b g x y Q s := by
 cases h with
 | dec h1 h2 => exact cd_split (fun h => h1 (of_decide_eq_true h)) (fun h => h2 (of_decide_eq_false h))
 | eq h1 h2 => exact cd_split (fun h => h1 (by simpa using h)) (fun h => h2 (by simpa using h))
 | ne h1 h2 => exact cd_split (fun h => h1 (by simpa using h)) (fun h => h2 (by simpa using h))
 | any h1 h2 => exact cd_split h1 h2
inductive GdI (P : Mod) : D → Opd → Bool → Dst → OC → List Opd → List RO → (St → Prop) → St → Prop
 | dec {p : Prop} {_ : Decidable p} {g : Opd} {want : Bool} {dst : Dst} {oc : OC} {args : List Opd} {r : List RO} {K : St → Prop} {s : St} (h1 : p → GdS P (.bool true) g want dst oc args r K s) (h2 : ¬p → GdS P (.bool false) g want dst oc args r K s) : GdI P (.bool (decide p)) g want dst oc args r K s
 | eq {a b : Int} {g : Opd} {want : Bool} {dst : Dst} {oc : OC} {args : List Opd} {r : List RO} {K : St → Prop} {s : St} (h1 : a = b → GdS P (.bool true) g want dst oc args r K s) (h2 : a ≠ b → GdS P (.bool false) g want dst oc args r K s) : GdI P (.bool (a == b)) g want dst oc args r K s
 | ne {a b : Int} {g : Opd} {want : Bool} {dst : Dst} {oc : OC} {args : List Opd} {r : List RO} {K : St → Prop} {s : St} (h1 : a ≠ b → GdS P (.bool true) g want dst oc args r K s) (h2 : a = b → GdS P (.bool false) g want dst oc args r K s) : GdI P (.bool (a != b)) g want dst oc args r K s
 | any {c : Bool} {g : Opd} {want : Bool} {dst : Dst} {oc : OC} {args : List Opd} {r : List RO} {K : St → Prop} {s : St} (h1 : c = true → GdS P (.bool true) g want dst oc args r K s) (h2 : c = false → GdS P (.bool false) g want dst oc args r K s) : GdI P (.bool c) g want dst oc args r K s
theorem gdA {P : Mod} {b : D} {g : Opd} {want : Bool} {dst : Dst} {oc : OC} {args : List Opd} {r : List RO} {K : St → Prop} {s : St} (h : GdI P b g want dst oc args r K s) : GdS P b g want dst oc args r K s := by
 cases h with
 | dec h1 h2 => exact gd_split (fun h => h1 (of_decide_eq_true h)) (fun h => h2 (of_decide_eq_false h))
 | eq h1 h2 => exact gd_split (fun h => h1 (by simpa using h)) (fun h => h2 (by simpa using h))
 | ne h1 h2 => exact gd_split (fun h => h1 (by simpa using h)) (fun h => h2 (by simpa using h))
 | any h1 h2 => exact gd_split h1 h2
inductive GqI (P : Mod) (qf : Bool) : D → Opd → Bool → Dst → OC → List Opd → List (RO × Bool) → (St → Prop) → St → Prop
 | dec {p : Prop} {_ : Decidable p} {g : Opd} {want : Bool} {dst : Dst} {oc : OC} {args : List Opd} {r : List (RO × Bool)} {K : St → Prop} {s : St} (h1 : p → GdQ P qf (.bool true) g want dst oc args r K s) (h2 : ¬p → GdQ P qf (.bool false) g want dst oc args r K s) : GqI P qf (.bool (decide p)) g want dst oc args r K s
 | eq {a b : Int} {g : Opd} {want : Bool} {dst : Dst} {oc : OC} {args : List Opd} {r : List (RO × Bool)} {K : St → Prop} {s : St} (h1 : a = b → GdQ P qf (.bool true) g want dst oc args r K s) (h2 : a ≠ b → GdQ P qf (.bool false) g want dst oc args r K s) : GqI P qf (.bool (a == b)) g want dst oc args r K s
 | ne {a b : Int} {g : Opd} {want : Bool} {dst : Dst} {oc : OC} {args : List Opd} {r : List (RO × Bool)} {K : St → Prop} {s : St} (h1 : a ≠ b → GdQ P qf (.bool true) g want dst oc args r K s) (h2 : a = b → GdQ P qf (.bool false) g want dst oc args r K s) : GqI P qf (.bool (a != b)) g want dst oc args r K s
 | any {c : Bool} {g : Opd} {want : Bool} {dst : Dst} {oc : OC} {args : List Opd} {r : List (RO × Bool)} {K : St → Prop} {s : St} (h1 : c = true → GdQ P qf (.bool true) g want dst oc args r K s) (h2 : c = false → GdQ P qf (.bool false) g want dst oc args r K s) : GqI P qf (.bool c) g want dst oc args r K s
theorem gqA {P : Mod} {qf : Bool} {b : D} {g : Opd} {want : Bool} {dst : Dst} {oc : OC} {args : List Opd} {r : List (RO × Bool)} {K : St → Prop} {s : St} (h : GqI P qf b g want dst oc args r K s) : GdQ P qf b g want dst oc args r K s := by
 cases h with
 | dec h1 h2 => exact gq_split (fun h => h1 (of_decide_eq_true h)) (fun h => h2 (of_decide_eq_false h))
 | eq h1 h2 => exact gq_split (fun h => h1 (by simpa using h)) (fun h => h2 (by simpa using h))
 | ne h1 h2 => exact gq_split (fun h => h1 (by simpa using h)) (fun h => h2 (by simpa using h))
 | any h1 h2 => exact gq_split h1 h2
structure FnOk (M : Mod) (f : FuncId) (na : Nat) (fn : Func) (E : Nat → Nat → Cfg) (rc : RC) (rs : List RR) : Prop where
 c : ∀ n m, (E n m).M = M ∧ (E n m).n0 = n ∧ (E n m).m0 = m ∧ (E n m).dfs = [] ∧ fn.ntmps = (E n m).nt ∧ (E n m).pers.take na = List.range na ∧ na ≤ (E n m).nt
 hf : M.P.funcs[f]? = some fn
 hb : fn.body = some (fn.body.getD .skip)
 z : ∀ n m, zAc (E n m) (fn.body.getD .skip) = some rc
 zr : ∀ n m, resRs (E n m) fn.results.toList = some rs
 nm : (fn.name == "runtime.NumGoroutine") = false
 bs : ∀ w g, M.base w g
 np : ∀ d hp, ¬ M.pan d hp
theorem fnOk {M : Mod} {f : FuncId} {na : Nat} {fn : Func} {E : Nat → Nat → Cfg} {rc : RC} {rs : List RR} (hf : M.P.funcs[f]? = some fn)
 (hb : fn.body = some (fn.body.getD .skip) := by kernel_rfl) (z : ∀ n m, zAc (E n m) (fn.body.getD .skip) = some rc := by intro n m; kernel_rfl) (zr : ∀ n m, resRs (E n m) fn.results.toList = some rs := by intro n m; kernel_rfl)
 (nm : (fn.name == "runtime.NumGoroutine") = false := by kernel_rfl) (bs : ∀ w g, M.base w g := by exact fun _ _ => trivial) (np : ∀ d hp, ¬ M.pan d hp := by exact fun _ _ h => h)
 (c : ∀ n m, (E n m).M = M ∧ (E n m).n0 = n ∧ (E n m).m0 = m ∧ (E n m).dfs = [] ∧ fn.ntmps = (E n m).nt ∧ (E n m).pers.take na = List.range na ∧ na ≤ (E n m).nt := by intro n m; exact ⟨rfl, rfl, rfl, rfl, by kernel_rfl, rfl, of_decide_eq_true rfl⟩) :
 FnOk M f na fn E rc rs := ⟨c, hf, hb, z, zr, nm, bs, np⟩
section
variable {M : Mod} {f : FuncId} {na : Nat} {fn : Func} {E : Nat → Nat → Cfg} {rc : RC} {rs : List RR}
theorem FnOk.oe (k : FnOk M f na fn E rc rs) {args : List D} {hp : Hp} {R : D → Hp → Prop} (n m : Nat) (hl : args.length = na) (hn : n = hp.H.length) (hm : m = hp.tk.length)
 (h : SWp (E n m) rc (fun e s => (match e with | .exit _ => False | _ => True) ∧ ∃ s1, Weak (E n m) s s1 ∧ rrsWp rs s1 fun ds => R (zAn ds) s1.hp) (St.init (E n m) args hp)) : Eff M f args hp R := by
 obtain ⟨c1, c2, c3, c4, c5, c6, c7⟩ := k.c n m
 have hf := k.hf
 have hb := k.bs
 have hn2 := k.np
 rw [← c1] at hf hb hn2 ⊢
 exact eff_of_body hf k.hb c5 (k.z n m) (k.zr n m) k.nm (by rw [hl]; exact c6) (by rw [hl]; exact c7) (by rw [c2]; exact hn) (by rw [c3]; exact hm) h c4 hb hn2
theorem FnOk.ow (k : FnOk M f na fn E rc rs) {C : Cfg} (hC : E 0 0 = C) {args : List D} {d : D} (hl : args.length = na)
 (h : SWp C rc (fun e s => (match e with | .exit _ => False | _ => True) ∧ ∃ s1, Weak C s s1 ∧ rrsWp rs s1 fun ds => D.closed (zAn ds) = true ∧ (zAn ds).er = d) (St.init C args ⟨[], []⟩)) : Pur M f args d := by
 subst hC
 obtain ⟨c1, c2, c3, c4, c5, c6, c7⟩ := k.c 0 0
 have hf := k.hf
 have hb := k.bs
 have hn2 := k.np
 rw [← c1] at hf hb hn2 ⊢
 exact pur_of_bodyW hf k.hb c5 (k.z 0 0) (k.zr 0 0) k.nm (by rw [hl]; exact c6) (by rw [hl]; exact c7) c2 c3 h c4 hb hn2
theorem FnOk.ok (k : FnOk M f na fn E rc rs) {C : Cfg} (hC : E 0 0 = C) {args : List D} {d : D} (hl : args.length = na)
 (h : SWp C rc (fun e s => (match e with | .exit _ => False | _ => True) ∧ rrsWp rs s fun ds => D.closed (zAn ds) = true ∧ (zAn ds).er = d) (St.init C args ⟨[], []⟩)) : Pur M f args d :=
 k.ow hC hl (zFs h fun _ s hq => ⟨s, zAo, hq.1, s, zAo, hq.2⟩)
end
end GoV
end
section
set_option linter.unusedSimpArgs false
set_option linter.unusedVariables false
namespace GoV
open Go
def Mod.pans (M : Mod) (p : D → Hp → Prop) : Mod := { M with pan := p }
def Cfg.pans (C : Cfg) (p : D → Hp → Prop) : Cfg := { C with M := C.M.pans p }
theorem zA2 {C : Cfg} {p : D → Hp → Prop} : (C.pans p).M = C.M.pans p := rfl
theorem zAf {M : Mod} {f : FuncId} {args : List D} {hp : Hp} {R : D → Hp → Prop} (h : Eff M f args hp R) (p : D → Hp → Prop) : Eff (M.pans p) f args hp R := h
def Xff (M : Mod) (f : FuncId) (args : List D) (hp : Hp) (R : D → Hp → Prop) : Prop :=
 zB7 M f ∧ ∀ w g xs, M.amb w g.own → HeapRel w g hp → RelL w g args xs → Calls M.P f xs.toArray w fun e w' =>
  ∃ v d hp' g', e = .panicked [{ v, recovered := false }] ∧ R d hp' ∧ Inv w g hp' w' g' ∧ Rel w' g' d v
theorem zBm {M : Mod} {f : FuncId} {args : List D} {hp : Hp} {R : D → Hp → Prop} (h : Xff M f args hp R) (p : D → Hp → Prop) : Xff (M.pans p) f args hp R := h
theorem call_pan {M : Mod} {f : FuncId} {first cap args : List D} {K : D → Hp → Prop} {ds : List D} {hp hp0 : Hp} {R : D → Hp → Prop} (bl tl : List Nat) (h : Xff M f ds hp0 R) (hs : SelOk hp bl tl)
 (hd : D.rnL (posF bl) (posF tl) (first ++ args ++ cap) = ds) (hh : hp.sel bl tl = hp0)
 (hk : ∀ d hp1, R d hp1 → M.pan (d.rn (bakF bl hp.H.length) (bakF tl hp.tk.length)) (hp.back bl tl hp1)) : CallOp M (.fn (.func f) first cap :: args) hp K := by
 intro w0 B w G vs hA hi hr
 obtain ⟨fv, av, rfl, h1, h2⟩ := hr.inv
 simp only [Rel] at h1
 obtain ⟨xs, ys, rfl, h3, h4⟩ := h1
 refine .inr (.inr ⟨f, xs.toArray, ys.toArray, av, rfl, h.1, ?_⟩)
 have hall := RelL.rn _ (Ren.sel hi.heap hs) ((h3.append h2).append h4)
 have hhs := hi.heap.sel hs
 rw [hd] at hall
 rw [hh] at hhs
 have hamb : M.amb w (G.sel bl tl).own := M.up _ _ _ _ hA.1 hi.keeps fun n hn => hi.new n (own_sel hn)
 have hcall := h.2 w (G.sel bl tl) (xs ++ av ++ ys) hamb hhs hall
 have e : (xs.toArray ++ av.toArray ++ ys.toArray) = (xs ++ av ++ ys).toArray := by simp
 rw [e]
 refine Calls.mono hcall fun e w' hp' => ?_
 obtain ⟨v, d, hp1, g1, rfl, hR, g3, g4⟩ := hp'
 obtain ⟨q1, q2, q3⟩ := hi.back hs g3
 exact ⟨v, _, _, _, rfl, hk d hp1 hR, q1, Rel.rn _ q3 g4⟩
section
variable {P : Mod} {r : List RO} {K : St → Prop} {s : St} {dst : Dst} {ds : List D}
theorem o_pan {f : FuncId} {first cap ds' : List D} {hp0 : Hp} {R : D → Hp → Prop} (bl tl : List Nat) (h : Xff P f ds' hp0 R) (hs : SelOk s.hp bl tl) (hd : D.rnL (posF bl) (posF tl) (first ++ ds ++ cap) = ds') (hh : s.hp.sel bl tl = hp0)
 (hk : ∀ d hp1, R d hp1 → P.pan (d.rn (bakF bl s.hp.H.length) (bakF tl s.hp.tk.length)) (s.hp.back bl tl hp1)) : OpS P .call (.fn (.func f) first cap :: ds) dst r K s := by
 unfold OpS OcWp
 simp only [zAa, if_true]
 exact call_pan bl tl h hs hd hh hk
theorem s_pan {t : Nat} {d : D} (h : P.pan (.iface t d) s.hp) : OpS P .pan [.iface t d] dst r K s := by
 unfold OpS OcWp
 simp only [zAa, isPan, Bool.false_eq_true, if_false, if_true]
 exact ⟨t, d, rfl, h⟩
end
theorem zCm {C : Cfg} {f : FuncId} {fn : Func} {c : Code} {rc : RC} (hf : C.P.funcs[f]? = some fn) (hb : fn.body = some c) (hnt : fn.ntmps = C.nt) (hrc : zAc C c = some rc)
 {args : List D} {hp : Hp} {R : D → Hp → Prop} (hname : (fn.name == "runtime.NumGoroutine") = false) (hpl : C.pers.take args.length = List.range args.length) (hlt : args.length ≤ C.nt) (hn0 : C.n0 = hp.H.length) (hm0 : C.m0 = hp.tk.length)
 (h : SWp (C.pans R) rc (fun _ _ => False) (St.init C args hp)) (hd0 : C.dfs = []) (hbs : ∀ w g, C.M.base w g) : Xff C.M f args hp R := by
 refine ⟨⟨fn, hf, by simp [hb], hname⟩, fun w g xs hA hH hargs => ?_⟩
 refine calls_of_wp hf hb ((wpIn_wide (n := 0)).1 ?_)
 have hsim := zD7 (C := C.pans R) hnt hpl hlt hn0 hm0 hd0 hH hargs
 refine wpIn_mono (h.run c (zCr hrc rfl rfl rfl) w g ⟨hA, hbs _ _⟩ _ w hsim none) fun e a' w' hl => ?_
 cases e <;> simp only [Lift, bodyPost] at hl ⊢
 case panic ch =>
  obtain ⟨h1, v, d, hp', G', e1, h2, h3, h4⟩ := hl
  exact ⟨h1.trans hd0, v, d, hp', G', e1, h2, h3, h4⟩
 all_goals (obtain ⟨_, _, q⟩ := hl; exact q.elim)
def callM (o : Option FuncId) (d : D) (args : List D) : List D :=
 match o with
 | some f => .fn (.func f) [d] [] :: args
 | none => [.u0]
theorem callM_some {f : FuncId} {d : D} {args : List D} : callM (some f) d args = .fn (.func f) [d] [] :: args := by simp [callM]
theorem callDs_iface {P : Mod} {name : String} {t : Nat} {d : D} {args : List D} : zDx P (.inv name) (.iface t d :: args) = callM (zCi P.P t name) d args := by
 simp only [zDx, callM]
 cases zCi P.P t name <;> rfl
section
variable {P : Mod} {r : List RO} {rq : List (RO × Bool)} {K : St → Prop} {s : St} {dst : Dst} {ds : List D}
theorem o_inv {name : String} : OpS P (.inv name) ds dst r K s = OpS P .call (zDx P (.inv name) ds) dst r K s := by
 simp [OpS, OcWp, zAa, zDx]
theorem p_inv {name : String} : OpQ P (.inv name) ds dst rq K s = OpQ P .call (zDx P (.inv name) ds) dst rq K s := by
 simp [OpQ, zAg, zAa, zDx]
theorem c_inv {name : String} : OpC P (.inv name) ds dst rq K s = OpC P .call (zDx P (.inv name) ds) dst rq K s := by
 simp [OpC, detWp, OcWp, zAa, zDx]
end
attribute [go_sem] callM_some callDs_iface o_inv p_inv c_inv
end GoV
end
section
set_option linter.unusedSimpArgs false
set_option linter.unusedVariables false
set_option maxHeartbeats 1000000
namespace GoV
open Go
theorem take_sel {α : Type} (l : List α) : ∀ n, n ≤ l.length → (List.range n).filterMap (l[·]?) = l.take n
 | 0, _ => by simp
 | n + 1, h => by
   rw [List.range_succ, List.filterMap_append, take_sel l n (by omega), List.take_succ_eq_append_getElem (by omega)]
   simp [show n < l.length by omega]
theorem cut_sel {G : Gh} {n m : Nat} (hn : n ≤ G.r.length) (hm : m ≤ G.tk.length) : G.sel (List.range n) (List.range m) = G.cut n m := by
 unfold Gh.sel Gh.cut
 rw [take_sel _ _ hn, take_sel _ _ hm]
theorem range_ok {hp : Hp} {n m : Nat} (hn : n ≤ hp.H.length) (hm : m ≤ hp.tk.length) : SelOk hp (List.range n) (List.range m) :=
 ⟨List.nodup_range, List.nodup_range, fun b hb => by have := List.mem_range.1 hb; omega, fun b hb => by have := List.mem_range.1 hb; omega⟩
theorem Evo.selR {w w' : World} {G G' : Gh} {n m : Nat} (h : Evo w G w' G') (hn : G.r.length ≤ n) (hm : G.tk.length ≤ m) (hn' : n ≤ G'.r.length) (hm' : m ≤ G'.tk.length) : Evo w G w' (G'.sel (List.range n) (List.range m)) := by
 rw [cut_sel hn' hm']
 refine ⟨h.imm, fun b k hb => ?_, fun t T hT => ?_⟩
 ·have := zAd hb
  show (G'.r.take n)[b]? = some k
  rw [List.getElem?_take_of_lt (by omega)]; exact h.ref b k hb
 ·have := zAd hT
  obtain ⟨T', h1, h2⟩ := h.tok t T hT
  refine ⟨T', ?_, h2⟩
  show (G'.tk.take m)[t]? = some T'
  rw [List.getElem?_take_of_lt (by omega)]; exact h1
def YOkB (M : Mod) (l : Nat) (x : List D) (hp hp' : Hp) (b : Bool) : Prop :=
 ∀ w0 B, M.base w0 B → ∀ w G vs, Inv w0 B hp w G → RelL w G x vs → YieldAt Fence.wide 0 M.P l vs.toArray w (Post w G fun d h => d = .bool b ∧ h = hp')
theorem call_yieldX {M : Mod} {l n m : Nat} {x x' : List D} {hp hp0 hp1 hp2 : Hp} {b : Bool} {K : D → Hp → Prop} (h : YOkB M l x hp0 hp1 b) (hB : ∀ w0 B, M.base w0 B → B.r.length = n ∧ B.tk.length = m) (hx : D.rnL (cutF n) (cutF m) x' = x) (hn : n ≤ hp.H.length) (hm : m ≤ hp.tk.length)
 (hc : hp.cut n m = hp0) (hb : hp.back (List.range n) (List.range m) hp1 = hp2) (hk : K (.bool b) hp2) : CallOp M (yldD l :: x') hp K := by
 intro w0 B w G vs hA hi hr
 obtain ⟨v, av, rfl, h1, h2⟩ := hr.inv
 simp only [yldD, Rel] at h1
 obtain ⟨rfl, _⟩ := h1
 refine .inr (.inl ⟨l, av, rfl, ?_⟩)
 obtain ⟨b1, b2⟩ := hB w0 B hA.2
 have hcut := hi.cut n m (by omega) (by omega)
 rw [hc] at hcut
 have h3 := RelL.rn x' (Ren.cut G n m) h2
 rw [hx] at h3
 obtain ⟨fn, tmps, asg, bd, e1, e2⟩ := h w0 B hA.2 w (G.cut n m) av hcut h3
 refine ⟨fn, tmps, asg, bd, e1, e2.mono fun e w' hp => ?_⟩
 obtain ⟨v, d, hp1', G', rfl, ⟨rfl, rfl⟩, g1, g2⟩ := hp
 have hln : n ≤ G.r.length := by rw [← hi.heap.len]; exact hn
 have hlm : m ≤ G.tk.length := by rw [← hi.heap.lent]; exact hm
 rw [← cut_sel hln hlm] at g1
 obtain ⟨q1, q2, q3⟩ := hi.back (range_ok hn hm) g1
 rw [hb] at q1
 exact ⟨v, _, _, _, rfl, hk, q1, q2, by simpa [D.rn] using Rel.rn (.bool b) q3 g2⟩
theorem o_yieldX {M : Mod} {r : List RO} {K : St → Prop} {s : St} {dst : Dst} {l n m : Nat} {x x' : List D} {hp0 hp1 hp2 : Hp} {b : Bool} (h : YOkB M l x hp0 hp1 b) (hB : ∀ w0 B, M.base w0 B → B.r.length = n ∧ B.tk.length = m) (hx : D.rnL (cutF n) (cutF m) x' = x) (hn : n ≤ s.hp.H.length) (hm : m ≤ s.hp.tk.length)
 (hc : s.hp.cut n m = hp0) (hb : s.hp.back (List.range n) (List.range m) hp1 = hp2) (hk : opsWp M r K ({ s with hp := hp2 }.put dst (.bool b))) :
 OpS M .call (yldD l :: x') dst r K s := by
 unfold OpS OcWp
 simp only [zAa, if_true]
 exact call_yieldX h hB hx hn hm hc hb hk
def yans (xs : List (List D)) (stp : Bool) (k : Nat) : Bool := !(stp && decide (k + 1 = xs.length))
structure Steady (hpk : Nat → Hp) (n m : Nat) : Prop where
 len : ∀ k, (hpk k).H.length = n
 lent : ∀ k, (hpk k).tk.length = m
 gc : ∀ k (L : List Blk), Hp.cut ⟨(hpk k).H ++ L, (hpk k).tk⟩ n m = hpk k
 sel : ∀ k (L : List Blk), Hp.sel ⟨(hpk k).H ++ L, (hpk k).tk⟩ (List.range n) (List.range m) = hpk k
 bk : ∀ k (L : List Blk), Hp.back ⟨(hpk k).H ++ L, (hpk k).tk⟩ (List.range n) (List.range m) (hpk (k + 1)) = ⟨(hpk (k + 1)).H ++ L, (hpk (k + 1)).tk⟩
theorem o_yieldS {M : Mod} {r : List RO} {K : St → Prop} {s : St} {dst : Dst} {l n m k : Nat} {hpk : Nat → Hp} {x x' : List D} {L : List Blk} {b : Bool} (hst : Steady hpk n m) (h : YOkB M l x (hpk k) (hpk (k + 1)) b) (hB : ∀ w0 B, M.base w0 B → B.r.length = n ∧ B.tk.length = m)
 (hx : D.rnL (cutF n) (cutF m) x' = x) (hh : s.hp = ⟨(hpk k).H ++ L, (hpk k).tk⟩) (hk : opsWp M r K ({ s with hp := ⟨(hpk (k + 1)).H ++ L, (hpk (k + 1)).tk⟩ }.put dst (.bool b))) : OpS M .call (yldD l :: x') dst r K s :=
 o_yieldX h hB hx (by rw [hh]; simp [hst.len]) (by rw [hh]; simp [hst.lent]) (by rw [hh]; exact hst.gc _ _) (by rw [hh]; exact hst.bk _ _) hk
def IterS (M : Mod) (f : FuncId) (caps : List D) (xs : List (List D)) (stp : Bool) : Prop :=
 zB7 M f ∧ ∀ (hpk : Nat → Hp) (n m : Nat), Steady hpk n m → ∀ (w : World) (g : Gh) (l : Nat), M.amb w g.own → HeapRel w g (hpk 0) →
  (∀ k x, xs[k]? = some x → ∀ w' G vs, Inv w g (hpk k) w' G → RelL w' G x vs → YieldAt Fence.wide 0 M.P l vs.toArray w' (Post w' G fun d h => d = .bool (yans xs stp k) ∧ h = hpk (k + 1))) →
  ∀ vs, RelL w g caps vs → Calls M.P f (#[.func (.yield l) #[] #[]] ++ vs.toArray) w (Post w g fun _ h => h = hpk xs.length)
theorem iterS_of_body {C : Cfg} {f : FuncId} {fn : Func} {c : Code} {rc : RC} (hf : C.P.funcs[f]? = some fn) (hb : fn.body = some c) (hnt : fn.ntmps = C.nt) (hrc : zAc C c = some rc) (hrs : fn.results.toList = [])
 {caps : List D} {xs : List (List D)} {stp : Bool} (hname : (fn.name == "runtime.NumGoroutine") = false) (hpl : C.pers.take (caps.length + 1) = List.range (caps.length + 1)) (hlt : caps.length + 1 ≤ C.nt)
 (h : ∀ (b : World → Gh → Prop) (hpk : Nat → Hp) (n m : Nat) (l : Nat), Steady hpk n m → (∀ w0 B, (C.M.with b).base w0 B → B.r.length = n ∧ B.tk.length = m) → (∀ k x, xs[k]? = some x → YOkB (C.M.with b) l x (hpk k) (hpk (k + 1)) (yans xs stp k)) →
  SWp (C.atB b (hpk 0)) rc (fun e s => (match e with | .exit _ => False | _ => True) ∧ ∃ s1, Weak (C.atB b (hpk 0)) s s1 ∧ s1.hp = hpk xs.length) (St.init C (yldD l :: caps) (hpk 0))) (hpan : ∀ d hp, ¬ C.M.pan d hp := by exact fun _ _ h => h) : IterS C.M f caps xs stp := by
 refine ⟨⟨fn, hf, by simp [hb], hname⟩, fun hpk n m hst w g l hA hH hR vs hvs => ?_⟩
 have e : (#[.func (.yield l) #[] #[]] ++ vs.toArray : Array Value) = (Value.func (.yield l) #[] #[] :: vs).toArray := by simp
 rw [e]
 have hs := h (fun w0 B => w0 = w ∧ B = g) hpk n m l hst (fun w0 B hb => by
  obtain ⟨rfl, rfl⟩ := hb
  exact ⟨by rw [← hH.len, hst.len], by rw [← hH.lent, hst.lent]⟩) (fun k x hx w0 B hb => by obtain ⟨rfl, rfl⟩ := hb; exact hR k x hx)
 refine body_spec (C := C.atB (fun w0 B => w0 = w ∧ B = g) (hpk 0)) (fn := fn) (c := c) (rc := rc) (rs := []) hf hb hnt
  (zCr hrc rfl rfl rfl) (by rw [hrs]; rfl) (args := yldD l :: caps) (hp := hpk 0) (R := fun _ h => h = hpk xs.length) hpl hlt rfl rfl ?_ rfl hpan ⟨hA, rfl, rfl⟩ hH ?_
 ·refine zFs hs fun e s hq => ?_
  obtain ⟨s1, h1, h2⟩ := hq.2
  exact ⟨s, zAo, hq.1, s1, h1, by simpa [rrsWp] using h2⟩
 ·simp only [RelL]
  exact ⟨_, _, rfl, by simp [yldD, Rel, Value.oneCell'], hvs⟩
section
variable {C : Cfg} {n m : Nat} {Q : Ex → Nat → Nat → St → Prop} {s : St}
theorem twp_rangeS {g : Opd} {ps : List Dst} {x y : RC} (hbs : ∀ w g, C.M.base w g) {f : FuncId} {caps : List D} {xs : List (List D)} {stp : Bool} (hit : IterS C.M f caps xs stp) (hpk : Nat → Hp) (N Mt : Nat) (hs0 : Steady hpk N Mt) (hst : ∀ r : Nat → Obj, Steady (fun k => ⟨(hpk k).H ++ [.raw (r k)], (hpk k).tk⟩) (N + 1) Mt)
 (hrow : ∀ r ∈ xs, D.rnL (posF (List.range N)) (posF (List.range Mt)) r = r) (hstp : stp = true → xs ≠ [])
 (hg : s.get g = .fn (.func f) [] caps) (hlen : ∀ r ∈ xs, r.length = ps.length) (h0 : s.hp = hpk 0)
 (hr : ∀ k r, xs[k]? = some r → SWp { C with n0 := (hpk k).H.length, m0 := (hpk k).tk.length, dfs := [] } x (fun e s' => match e with
  | .normal => SWp { C with n0 := s'.hp.H.length, m0 := s'.hp.tk.length, dfs := [] } y (fun e s2 => match e with
    | .normal => yans xs stp k = true ∧ ∃ s3, Weak { C with n0 := s'.hp.H.length, m0 := s'.hp.tk.length, dfs := [] } s2 s3 ∧ s3.hp.cut N Mt = hpk (k + 1)
    | .ret => yans xs stp k = false ∧ ∃ s3, Weak { C with n0 := s'.hp.H.length, m0 := s'.hp.tk.length, dfs := [] } s2 s3 ∧ s3.hp.cut N Mt = hpk (k + 1)
    | _ => False) s'
  | _ => False) (binds ps r { s with hp := hpk k }))
 (hd : ∀ o, Q (if stp then .ret else .normal) (N + 1) Mt { s with hp := ⟨(hpk xs.length).H ++ [.raw o], (hpk xs.length).tk⟩ }) (hpan : ∀ d hp, ¬ C.M.pan d hp := by exact fun _ _ h => h) : TWp C n m (.rangeF g ps x y) Q s := by
 refine ⟨fun c hc w0 B hA a w hs => ?_⟩
 have hreg : ∀ id ops d, c = .region id ops d → _ := fun id ops d e => zAv (e ▸ hc)
 cases c <;> (try simp only [zAc] at hc) <;> (try (cases hc; done))
 case region _ ops d => exfalso; have := hreg _ _ _ rfl; simp at this
 case rangeFunc go pa ca cb =>
  cases ho : resO C go with
  | none => simp [ho] at hc
  | some g' =>
    cases hp : zCh C pa.toList with
    | none => simp [ho, hp] at hc
    | some ps' =>
      cases ha : zAc C ca with
      | none => simp [ho, hp, ha] at hc
      | some x' =>
        cases hb : zAc C cb with
        | none => simp [ho, hp, ha, hb] at hc
        | some y' =>
          simp [ho, hp, ha, hb] at hc
          obtain ⟨rfl, rfl, rfl, rfl⟩ := hc
          obtain ⟨w1, B1, hp1, Ds, h1, h2, h3, h4⟩ := hs
          have hA1 := start_up hbs hA h1
          obtain ⟨G, gi, gb, g1, g2, g3, g4⟩ := h4
          have hpl : ps'.length = pa.size := by rw [zE6 _ _ hp]; simp
          have hv := zEy g4 (C := { C with n0 := n, m0 := m, dfs := Ds.map mark }) ((zEk rfl rfl go).trans ho)
          rw [hg] at hv
          simp only [Rel] at hv
          obtain ⟨xs0, ys, hev, hx0, hys⟩ := hv
          have hx0 := hx0.inv_nil
          subst hx0
          rw [h0] at gi
          refine wpIn_rangeFunc ?_
          intro fn hfn
          obtain ⟨⟨fd, hfd, hfb, hfn'⟩, hspec⟩ := hit
          obtain ⟨rec, hrec⟩ : ∃ rec : LoopState → Option Code → Loop, rec = fun st pe => { state := st, pending := pe, fn, tmps := a.tmps, params := pa, assign := ca, body := cb, defers := w.heap.size } := ⟨_, rfl⟩
          obtain ⟨W1, hW1⟩ : ∃ W1, (w.alloc (.deferred (some []))).alloc (.loop (rec .ready none)) = W1 := ⟨_, rfl⟩
          have hL1 : W1.heap[w.heap.size + 1]? = some (.loop (rec .ready none)) := by
           rw [← hW1]; have := World.alloc_heap_new (w.alloc (.deferred (some []))) (.loop (rec .ready none)); rwa [World.size_alloc] at this
          have hK1 : W1.heap[w.heap.size]? = some (.deferred (some [])) := by
           rw [← hW1]
           rw [zAy _ _ _ (by simp)]
           exact World.alloc_heap_new w _
          have hsz1 : W1.heap.size = w.heap.size + 2 := by rw [← hW1]; simp
          obtain ⟨i1, v1⟩ := gi.alloc (.deferred (some []))
          obtain ⟨i2, v2⟩ := i1.newBlk (.raw (.loop (rec .ready none))) (.loop (rec .ready none)) fun w' g' he => rfl
          have hwa : (w.alloc (.deferred (some []))).heap.size = w.heap.size + 1 := by simp
          rw [hW1, hwa] at i2 v2
          obtain ⟨G1, hG1⟩ : ∃ G1 : Gh, G1 = { G with r := G.r ++ [w.heap.size + 1] } := ⟨_, rfl⟩
          rw [← hG1] at i2 v2
          obtain ⟨ro, hro⟩ : ∃ ro : Nat → Obj, ro = fun k => if stp = true ∧ k = xs.length then .loop (rec .done (some .ret)) else .loop (rec .ready none) := ⟨_, rfl⟩
          have hro0 : ∀ k, (k < xs.length ∨ stp = false) → ro k = .loop (rec .ready none) := fun k hk => by
           rw [hro]; simp only; rw [if_neg]; rintro ⟨q1, q2⟩; rcases hk with q | q
           ·omega
           ·rw [q] at q1; cases q1
          have hfirst : ro 0 = .loop (rec .ready none) := by
           refine hro0 0 ?_
           cases hst' : stp
           ·exact .inr rfl
           ·exact .inl (List.length_pos_iff.2 (hstp hst'))
          have hst1 := hst ro
          have hGl : G.r.length = N := by rw [← gi.heap.len, hs0.len]
          have hGt : G.tk.length = Mt := by rw [← gi.heap.lent, hs0.lent]
          have hown1 : ∀ b, b ∈ G1.own ↔ b ∈ G.own ∨ b = w.heap.size + 1 := fun b => by
           rw [hG1]; simp only [Gh.own, List.mem_append, List.mem_singleton]
           constructor
           iterate 2
            ·rintro ((q | q) | q)
             ·exact .inl (.inl q)
             ·exact .inr q
             ·exact .inl (.inr q)
          rw [← hfirst] at i2
          have hv12 := v1.trans v2
          have hownG : ∀ b ∈ G.own, b < w.heap.size := gi.heap.own_lt
          have iW := Inv.refl' i2.heap
          have hAW : C.M.amb W1 G1.own := C.M.up _ _ _ _ hA1.1 i2.keeps i2.new
          refine ⟨w.heap.size + 1, [mark w.heap.size], W1, { target := .fn (.func f) ys.toArray, args := #[.func (.yield (w.heap.size + 1)) #[] #[]] }, W1, f,
           #[.func (.yield (w.heap.size + 1)) #[] #[]] ++ ys.toArray, W1, ?_, ?_, fun _ _ => trivial, ?_, fun hd => by simp [Fence.wide] at hd, ?_⟩
          ·rw [← hW1, hrec]; exact run_enterLoop_outer _ _ _ _ _
          ·simp only [resolve, hev, Deferred.ofValue, Sem.run_pure, Sem.run_bind, Result.andThen_ok]
           simp [Act.eval]
          ·simp only [invoke, callFunc, Sem.run_bind, run_program, Result.andThen_ok]
           simp [hfd, hfb, hfn', Sem.run_pure, Cfg.P]
          ·refine callsIn_wide.2 ?_
           refine (hspec (fun k => ⟨(hpk k).H ++ [.raw (ro k)], (hpk k).tk⟩) (N + 1) Mt hst1 W1 G1 (w.heap.size + 1) hAW i2.heap ?_ ys (RelL.evo _ hv12 hys)).mono ?_
           ·
            intro k r hk w' G'' vs hi hvs0
            have hkl : k < xs.length := (List.getElem?_eq_some_iff.1 hk).1
            have hrk : ro k = .loop (rec .ready none) := hro0 k (.inl hkl)
            have hGr : G''.r.length = N + 1 := by rw [← hi.heap.len]; simp [hs0.len]
            have hGk : G''.tk.length = Mt := by rw [← hi.heap.lent]; simp [hs0.lent]
            have hrN : G''.r[N]? = some (w.heap.size + 1) := by
             refine hi.evo.ref N _ ?_
             rw [hG1]; simp [← hGl]
            have hbN : ∀ (k : Nat) (o : Obj), ((hpk k).H ++ [Blk.raw o])[N]? = some (.raw o) := fun k o => by
             rw [List.getElem?_append_right (by rw [hs0.len]; omega), hs0.len]; simp
            have hlw : w'.heap[w.heap.size + 1]? = some (.loop (rec .ready none)) := by
             have := hi.heap.blk N _ _ (hbN k (ro k)) hrN
             rw [hrk] at this
             exact this
            have hsok := range_ok (hp := ⟨(hpk k).H ++ [.raw (ro k)], (hpk k).tk⟩) (n := N) (m := Mt) (by simp [hs0.len]) (by simp [hs0.lent])
            obtain ⟨G', hG'⟩ : ∃ G', G' = G''.sel (List.range N) (List.range Mt) := ⟨_, rfl⟩
            have hheap : HeapRel w' G' (hpk k) := by
             have := hi.heap.sel hsok
             rw [hs0.sel k] at this
             rw [hG']; exact this
            have hvs : RelL w' G' r vs := by
             have := RelL.rn _ (Ren.sel hi.heap hsok) hvs0
             rw [hrow r (List.mem_of_getElem? hk)] at this
             rw [hG']; exact this
            have hev' : Evo w G w' G' := by rw [hG']; exact (hv12.trans hi.evo).selR (by omega) (by omega) (by omega) (by omega)
            have hcs := cut_sel (G := G'') (n := N) (m := Mt) (by omega) (by omega)
            have hownG' : ∀ b ∈ G'.own, b ≠ w.heap.size + 1 ∧ b ≠ w.heap.size := fun b hb => by
             rw [hG', hcs] at hb
             rcases List.mem_append.1 hb with q | q
             ·have hne : b ≠ w.heap.size + 1 := fun e => by
               subst e
               obtain ⟨i, hi1⟩ := List.getElem?_of_mem q
               have hiN : i < N := by
                have := zAd hi1
                simp only [Gh.cut, List.length_take] at this; omega
               have hi2 : G''.r[i]? = some (w.heap.size + 1) := by
                have e : (G''.r.take N)[i]? = some (w.heap.size + 1) := hi1
                rwa [List.getElem?_take_of_lt hiN] at e
               have := (List.getElem?_inj (by omega) hi.heap.nodup).1 (hi2.trans hrN.symm)
               omega
              refine ⟨hne, ?_⟩
              have hb2 : b ∈ G''.r := List.mem_of_mem_take q
              rcases hi.new b (List.mem_append.2 (.inl hb2)) with p | p
              ·rcases (hown1 b).1 p with p | p
               ·have := hownG b p; omega
               ·exact absurd p hne
              ·omega
             ·have hb2 : b ∈ blks G''.tk := by
               obtain ⟨T, hT, hTb⟩ := mem_blks.1 q
               exact mem_blks.2 ⟨T, List.mem_of_mem_take hT, hTb⟩
              rcases hi.newt b hb2 with p | p
              ·rw [hG1] at p
               have := hownG b (List.mem_append.2 (.inr p)); omega
              ·omega
            have hnew : ∀ b ∈ G'.own, b ∈ G.own ∨ w.heap.size ≤ b := fun b hb => by
             rw [hG'] at hb
             rcases hi.new b (own_sel hb) with p | p
             ·rcases (hown1 b).1 p with p | p
              ·exact .inl p
              ·exact .inr (by omega)
             ·exact .inr (by omega)
            have hnew1 : ∀ b ∈ G'.own, b ∈ G1.own ∨ W1.heap.size ≤ b := fun b hb => by rw [hG'] at hb; exact hi.new b (own_sel hb)
            have hvl : vs.toArray.size = pa.size := by
             have := hvs.length
             have := hlen r (List.mem_of_getElem? hk)
             simp; omega
            have hy := run_yield (P := C.M.P) (args := vs.toArray) hlw (by rw [hrec]; exact hvl)
            rw [hrec] at hy
            refine ⟨fn, _, ca, cb, hy, roundIn_of_wpIn hfn ?_⟩
            have ht : (pa.zip vs.toArray).foldl (fun tmps (x : Tmp × Value) => tmps.setIfInBounds x.1 x.2) a.tmps = (pa.toList.zip vs).foldl (fun (tm : Array Value) (p : Nat × Value) => tm.setIfInBounds p.1 p.2) a.tmps := by
             rw [← Array.foldl_toList]; simp
            have hb4 := binds_rel (C := C) pa.toList ps' r vs { s with hp := hpk k } a hp hvs (hlen r (List.mem_of_getElem? hk)) (fun t => Rel.evo _ hev' (g4 t)) g1 g3
            obtain ⟨b1, b2, b3, b4⟩ := hb4
            have hsim : Sim { C with n0 := (hpk k).H.length, m0 := (hpk k).tk.length, dfs := [] } w' G' (binds ps' r { s with hp := hpk k })
             { tmps := (pa.zip vs.toArray).foldl (fun tmps (x : Tmp × Value) => tmps.setIfInBounds x.1 x.2) a.tmps, defers := [] } w' := by
             refine ⟨G', by rw [b4]; exact Inv.refl' hheap, ⟨hheap.len.symm, hheap.lent.symm⟩, by rw [ht]; exact b2, rfl, b3, fun t => ?_⟩
             rw [ht]; exact b1 t
            have hAw' : C.M.start w' G' := ⟨C.M.up _ _ _ _ hAW hi.keeps hnew1, hbs _ _⟩
            have hrun := (hr k r hk).run ca (zCr ha rfl rfl rfl) w' G' hAw' _ w' hsim (some (w.heap.size + 1))
            refine wpIn_mono hrun fun e a1 wa hl => ?_
            cases e <;> simp only [Lift, Exit.then] at hl ⊢ <;> try exact hl.elim
            case panic => obtain ⟨_, _, _, _, _, _, k, _⟩ := hl; exact absurd k (hpan _ _)
            case exit => obtain ⟨_, _, q⟩ := hl; exact q
            case ret => obtain ⟨_, _, q⟩ := hl; exact q
            obtain ⟨s', q1, q3⟩ := hl
            obtain ⟨Ga, qi, qb, p1, p2, p3, p4⟩ := q1
            have hownGa : ∀ b ∈ Ga.own, b ≠ w.heap.size + 1 ∧ b ≠ w.heap.size := fun b hb => by
             rcases qi.new b hb with h | h
             ·exact hownG' b h
             ·have := hi.keeps.size; omega
            have hla : wa.heap[w.heap.size + 1]? = some (.loop (rec .ready none)) := by
             rw [qi.keeps.block _ (Array.getElem?_eq_some_iff.1 hlw).1 (fun hm => (hownG' _ hm).1 rfl)]; exact hlw
            refine ⟨_, run_beginRound hla (by rw [hrec]), ?_⟩
            have t1 : Turn wa (wa.putObj (w.heap.size + 1) (.loop { rec .ready none with state := .busy })) (w.heap.size + 1) := Turn.put hla rfl rfl
            obtain ⟨W2, hW2⟩ : ∃ W2, wa.putObj (w.heap.size + 1) (.loop { rec .ready none with state := .busy }) = W2 := ⟨_, rfl⟩
            rw [hW2] at t1 ⊢
            have hl2 : W2.heap[w.heap.size + 1]? = some (.loop { rec .ready none with state := .busy }) := by
             rw [← hW2]; exact World.putObj_heap_same (Array.getElem?_eq_some_iff.1 hla).1
            have hh2 : HeapRel W2 Ga s'.hp := t1.heap (fun hm => (hownGa _ hm).1 rfl) qi.heap
            have kW1 : Keeps w W1 G.own := (Keeps.alloc w _ _).trans (by rw [← hW1]; exact Keeps.alloc _ _ _)
            have kw' : Keeps w w' G.own := ⟨hi.keeps.os.trans kW1.os, hi.keeps.tape.trans kW1.tape, hi.keeps.output.trans kW1.output, Nat.le_trans kW1.size hi.keeps.size, fun b hb hn =>
             (hi.keeps.block b (Nat.lt_of_lt_of_le hb kW1.size) (fun hm => by
              rcases (hown1 b).1 hm with q | q
              ·exact hn q
              ·omega)).trans (kW1.block b hb hn)⟩
            have kw : Keeps w wa G.own := kw'.trans' qi.keeps hnew
            have hA2 : C.M.start W2 Ga := by
             refine ⟨C.M.up w G.own _ _ (start_up hbs hA1 gi).1 ⟨t1.os.trans kw.os, t1.tape.trans kw.tape, t1.output.trans kw.output, by rw [t1.size]; exact kw.size, fun b hb hn => (t1.block b (by omega)).trans (kw.block b hb hn)⟩ fun b hb => ?_, hbs _ _⟩
             rcases qi.new b hb with h | h
             ·exact hnew b h
             ·right; have := kw'.size; omega
            have hsim2 : Sim { C with n0 := s'.hp.H.length, m0 := s'.hp.tk.length, dfs := [] } W2 Ga s' a1 W2 :=
             ⟨Ga, Inv.refl' hh2, ⟨hh2.len.symm, hh2.lent.symm⟩, p1, p2, p3, fun t => Rel.evo _ (t1.evo Ga) (p4 t)⟩
            have hrun2 := q3.run cb (zCr hb rfl rfl rfl) W2 Ga hA2 _ W2 hsim2 (some (w.heap.size + 1))
            have fin : ∀ (w3 : World) (a3 : Act) (s2 : St) (jump : Option Code), Sim { C with n0 := s'.hp.H.length, m0 := s'.hp.tk.length, dfs := [] } W2 Ga s2 a3 w3 →
             (∃ s3, Weak { C with n0 := s'.hp.H.length, m0 := s'.hp.tk.length, dfs := [] } s2 s3 ∧ s3.hp.cut N Mt = hpk (k + 1)) → yans xs stp k = jump.isNone → (jump = none ∨ jump = some .ret) →
             ∃ v w'', (Instr.endRound (w.heap.size + 1) jump).run C.P w3 = .ok v w'' ∧ Post w' G'' (fun d h => d = .bool (yans xs stp k) ∧ h = ⟨(hpk (k + 1)).H ++ [.raw (ro (k + 1))], (hpk (k + 1)).tk⟩) (.returned v) w'' := by
             intro w3 a3 s2 jump z1 zz hyj hjj
             obtain ⟨s3, z2, z3⟩ := zz
             obtain ⟨G3, zi, _⟩ := z2 _ _ _ _ z1
             have hl3 : w3.heap[w.heap.size + 1]? = some (.loop { rec .ready none with state := .busy }) := by
              rw [zi.keeps.block _ (Array.getElem?_eq_some_iff.1 hl2).1 (fun hm => (hownGa _ hm).1 rfl)]; exact hl2
             have hend := run_endRound (P := C.P) jump hl3
             refine ⟨_, _, hend, ?_⟩
             have hsz2 : wa.heap.size = W2.heap.size := t1.size.symm
             have hG3 : w.heap.size + 1 ∉ G3.own := fun hm => by
              rcases zi.new _ hm with h | h
              ·exact (hownGa _ h).1 rfl
              ·have := (Array.getElem?_eq_some_iff.1 hl2).1; omega
             have hlt3 := (Array.getElem?_eq_some_iff.1 hl3).1
             have t3 := Turn.put (o' := .loop (rec .ready none)) hl3 rfl rfl
             have hl4 : (w3.putObj (w.heap.size + 1) (.loop (rec .ready none))).heap[w.heap.size + 1]? = some (.loop (rec .ready none)) := World.putObj_heap_same hlt3
             obtain ⟨W4, hW4⟩ : ∃ W4, w3.putObj (w.heap.size + 1) (.loop (rec .ready none)) = W4 := ⟨_, rfl⟩
             rw [hW4] at t3 hl4
             have ev4 : Evo wa Ga W4 G3 := ((t1.evo Ga).trans zi.evo).trans (t3.evo G3)
             have k4 : Keeps wa W4 Ga.own := by
              refine ⟨?_, ?_, ?_, ?_, fun b hb hn => ?_⟩
              ·exact t3.os.trans (zi.keeps.os.trans t1.os)
              ·exact t3.tape.trans (zi.keeps.tape.trans t1.tape)
              ·exact t3.output.trans (zi.keeps.output.trans t1.output)
              ·rw [t3.size]; have := zi.keeps.size; omega
              ·by_cases e : b = w.heap.size + 1
               ·rw [e, hl4, hla]
               ·rw [t3.block b e, zi.keeps.block b (by omega) hn, t1.block b e]
             have i4 : Inv wa Ga s3.hp W4 G3 := ⟨t3.heap hG3 zi.heap, ev4, k4, fun b hb => (zi.newr b hb).imp id (fun h => by omega), fun b hb => (zi.newt b hb).imp id (fun h => by omega), fun b o hb => (zi.i1 b o hb).imp id (fun h => h.imp (fun h => by omega) id)⟩
             have i5 : Inv w' (G''.sel (List.range N) (List.range Mt)) (hpk (k + 1)) W4 (G3.cut N Mt) := by
              rw [← hG', ← z3]
              exact (qi.join i4).cut N Mt (by rw [← hheap.len, hs0.len]; exact Nat.le_refl _) (by rw [← hheap.lent, hs0.lent]; exact Nat.le_refl _)
             obtain ⟨x1, x2, x3⟩ := (Inv.refl' hi.heap).back hsok i5
             rw [hs0.bk k] at x1
             obtain ⟨W5, hW5⟩ : ∃ W5, w3.putObj (w.heap.size + 1) (.loop { { rec .ready none with state := .busy } with state := if jump.isNone then .ready else .done, pending := jump }) = W5 := ⟨_, rfl⟩
             have hl5 : W5.heap[w.heap.size + 1]? = some (ro (k + 1)) := by
              rw [← hW5, World.putObj_heap_same hlt3]
              rcases hjj with rfl | rfl
              ·have hr2 : ro (k + 1) = .loop (rec .ready none) := by
                rw [hro]; simp only
                rw [if_neg]
                rintro ⟨u1, u2⟩
                simp [yans, u1, u2] at hyj
               rw [hr2, hrec]; rfl
              ·have hr2 : ro (k + 1) = .loop (rec .done (some .ret)) := by
                rw [hro]; simp only
                rw [if_pos]
                simpa [yans] using hyj
               rw [hr2, hrec]; rfl
             obtain ⟨y1, y2⟩ := x1.write (w' := W5) N (w.heap.size + 1) (x2.ref N _ hrN) ⟨_, hbN (k + 1) (ro k), by simp⟩ (.raw (ro (k + 1))) (fun w1 g1 he => hl5)
              (fun m hm => by rw [← hW5, ← hW4, World.putObj_heap_other hm, World.putObj_heap_other hm]) (by rw [← hW5, ← hW4]; simp [World.putObj]) (by rw [← hW5, ← hW4]; rfl) (by rw [← hW5, ← hW4]; rfl) (by rw [← hW5, ← hW4]; rfl)
             have hset : ((hpk (k + 1)).H ++ [Blk.raw (ro k)]).set N (.raw (ro (k + 1))) = (hpk (k + 1)).H ++ [.raw (ro (k + 1))] := by
              rw [List.set_append_right _ _ (by rw [hs0.len]; omega), hs0.len]; simp
             simp only [hset] at y1
             rw [← hW5] at y1
             exact ⟨_, _, _, _, rfl, ⟨rfl, rfl⟩, y1, by simp [Rel, hyj]⟩
            refine wpIn_mono hrun2 fun e a3 w3 hl => ?_
            cases e <;> simp only [Lift, roundPost] at hl ⊢ <;> try exact hl.elim
            case panic => obtain ⟨_, _, _, _, _, _, k, _⟩ := hl; exact absurd k (hpan _ _)
            case exit => obtain ⟨_, _, q⟩ := hl; exact q.elim
            case normal => obtain ⟨s2, z1, z2, z3⟩ := hl; exact fin w3 a3 s2 none z1 z3 (by rw [z2]; rfl) (.inl rfl)
            case ret => obtain ⟨s2, z1, z2, z3⟩ := hl; exact fin w3 a3 s2 (some .ret) z1 z3 (by rw [z2]; rfl) (.inr rfl)
           ·
            rintro e w5 ⟨v, d, hp5, G5, rfl, rfl, j1, j2⟩
            have hbN : ∀ (o : Obj), ((hpk xs.length).H ++ [Blk.raw o])[N]? = some (.raw o) := fun o => by
             rw [List.getElem?_append_right (by rw [hs0.len]; omega), hs0.len]; simp
            have hrN : G5.r[N]? = some (w.heap.size + 1) := by
             refine j1.evo.ref N _ ?_
             rw [hG1]; simp [← hGl]
            obtain ⟨rr, hrr, hrb, hrp⟩ : ∃ rr : Loop, ro xs.length = .loop rr ∧ rr.state ≠ .busy ∧ rr.pending = if stp then some .ret else none := by
             rw [hro]
             cases stp
             ·exact ⟨rec .ready none, by simp, by rw [hrec]; simp, by rw [hrec]; rfl⟩
             ·exact ⟨rec .done (some .ret), by simp, by rw [hrec]; simp, by rw [hrec]; rfl⟩
            have hl5 : w5.heap[w.heap.size + 1]? = some (.loop rr) := by
             have := j1.heap.blk N _ _ (hbN (ro xs.length)) hrN
             rw [hrr] at this
             exact this
            have hlt5 := (Array.getElem?_eq_some_iff.1 hl5).1
            have hno : ∀ b, b < w.heap.size + 1 → b ∉ G.own → b ∉ G1.own := fun b hb hn hm => by
             rcases (hown1 b).1 hm with q | q
             ·exact hn q
             ·omega
            have hk5 : w5.heap[w.heap.size]? = some (.deferred (some [])) := by
             rw [j1.keeps.block _ (by omega) (hno _ (by omega) fun hm => by have := hownG _ hm; omega)]; exact hK1
            have hG5 : ∀ b, b ∈ G5.own → b ≠ w.heap.size := fun b hb => by
             rcases j1.new b hb with h | h
             ·rcases (hown1 b).1 h with q | q
              ·have := hownG b q; omega
              ·omega
             ·omega
            refine ⟨rr.pending, _, run_endLoop (P := C.P) hl5 hrb, ?_⟩
            obtain ⟨W6, hW6⟩ : ∃ W6, w5.putObj (w.heap.size + 1) (.loop { rr with state := .exhausted }) = W6 := ⟨_, rfl⟩
            have hl6 : W6.heap[w.heap.size + 1]? = some (.loop { rr with state := .exhausted }) := by rw [← hW6]; exact World.putObj_heap_same hlt5
            have hoth : ∀ m, m ≠ w.heap.size + 1 → W6.heap[m]? = w5.heap[m]? := fun m hm => by rw [← hW6]; exact World.putObj_heap_other hm
            have i5 := h1.join (i2.join j1)
            have hw0 : w0.heap.size ≤ w.heap.size := Nat.le_trans h1.keeps.size gi.keeps.size
            obtain ⟨i6, v6⟩ := i5.write (w' := W6) N (w.heap.size + 1) hrN ⟨_, hbN (ro xs.length), by simp⟩ (.raw (.loop { rr with state := .exhausted })) (fun w1 g1 he => hl6) hoth
             (by rw [← hW6]; simp [World.putObj]) (by rw [← hW6]; rfl) (by rw [← hW6]; rfl) (by rw [← hW6]; rfl)
            have hset : ((hpk xs.length).H ++ [Blk.raw (ro xs.length)]).set N (.raw (.loop { rr with state := .exhausted })) = (hpk xs.length).H ++ [.raw (.loop { rr with state := .exhausted })] := by
             rw [List.set_append_right _ _ (by rw [hs0.len]; omega), hs0.len]; simp
            simp only [hset] at i6
            rw [hW6]
            have e6 : Evo w G W6 G5 := (hv12.trans j1.evo).trans v6
            have key : SimT C (N + 1) Mt w0 B { s with hp := ⟨(hpk xs.length).H ++ [.raw (.loop { rr with state := .exhausted })], (hpk xs.length).tk⟩ } { a with defers := [mark w.heap.size] ++ a.defers } W6 := by
             refine ⟨W6, G5, _, w.heap.size :: Ds, i6, ?_, ?_, ?_⟩
             ·refine List.nodup_cons.2 ⟨fun hm => ?_, h2⟩
              have := (Array.getElem?_eq_some_iff.1 (h3 _ hm).1).1
              have := gi.keeps.size
              omega
             ·intro D hD
              rcases List.mem_cons.1 hD with rfl | hD
              ·exact ⟨by rw [hoth _ (by omega)]; exact hk5, fun hm => hG5 _ hm rfl, hw0⟩
              ·obtain ⟨d1, d2, d3⟩ := h3 D hD
               have dl := (Array.getElem?_eq_some_iff.1 d1).1
               have dl2 := gi.keeps.size
               have dG : D ∉ G.own := fun hm => by
                rcases gi.new D hm with h | h
                ·exact d2 h
                ·omega
               refine ⟨?_, fun hm => ?_, d3⟩
               ·rw [hoth _ (by omega), j1.keeps.block _ (by omega) (hno _ (by omega) dG), i2.keeps.block _ (by omega) d2, d1]
               ·rcases j1.new D hm with h | h
                ·exact hno _ (by omega) dG h
                ·omega
             ·refine ⟨G5, Inv.refl' i6.heap, ⟨by rw [← i6.heap.len]; simp [hs0.len], by rw [← i6.heap.lent]; simp [hs0.lent]⟩, g1, ?_, g3, fun t => Rel.evo _ e6 (g4 t)⟩
              simp [g2, mark]
            rw [hrp]
            cases stp
            ·simp only [Bool.false_eq_true, if_false, LiftT]
             exact ⟨_, _, _, key, hd _⟩
            ·simp only [if_true]
             refine wpIn_ret ?_
             simp only [LiftT]
             exact ⟨_, _, _, key, hd _⟩
 all_goals exfalso; (repeat' split at hc) <;> simp_all
end
end GoV
end
section
set_option linter.unusedSimpArgs false
set_option linter.unusedVariables false
namespace GoV
open Go
theorem evo_cl {w : World} {g : Gh} : Evo w g.cl w g :=
 ⟨fun b o h => ⟨h, rfl⟩, fun b n h => by simp [Gh.cl] at h, fun t T h => by simp [Gh.cl] at h⟩
theorem rel_er {w : World} {g : Gh} {d : D} {x : Value} (hc : d.closed = true) (h : Rel w g d x) : Rel w g d.er x := Rel.evo _ evo_cl (Rel.closed d hc h)
theorem relL_er {w : World} {g : Gh} : ∀ {cs : List D} {xs : List Value}, D.cL cs = true → RelL w g cs xs → RelL w g (D.erL cs) xs
 | [], xs, _, h => h
 | d :: cs, xs, hc, h => by
   simp only [D.cL, Bool.and_eq_true] at hc
   obtain ⟨y, ys, rfl, h1, h2⟩ := h.inv
   simp only [D.erL]
   exact RelL.cons (rel_er hc.1 h1) (relL_er hc.2 h2)
theorem weak_erB {C : Cfg} {s : St} (b : Nat) {cs : List D} (hb : s.hp.H[b]? = some (.cells cs)) (hc : D.cL cs = true) : Weak C s ⟨s.env, s.scr, { s.hp with H := s.hp.H.set b (.cells (D.erL cs)) }⟩ := by
 intro w0 B a w h
 obtain ⟨G, g0, gb, g1, g2, g3, g4⟩ := h
 obtain ⟨n, hn⟩ : ∃ n, G.r[b]? = some n := by
  have hl := zAd hb
  rw [g0.heap.len] at hl
  exact ⟨_, List.getElem?_eq_getElem hl⟩
 obtain ⟨xs, e, k1, k2, k3⟩ := g0.heap.blk b _ n hb hn
 obtain ⟨u1, u2⟩ := g0.write (w' := w) b n hn ⟨_, hb, by simp⟩ (.cells (D.erL cs)) (fun w1 g1 he => ⟨xs, e, k1, relL_er hc (RelL.evo _ he k2), k3⟩) (fun _ _ => rfl) rfl rfl rfl rfl
 exact ⟨_, u1, gb, g1, g2, g3, g4⟩
theorem zD8 {M : Mod} {f : FuncId} {args : List D} {hp hp1 : Hp} {d0 : D} (n m : Nat) (hn : hp.H.length ≤ n) (hm : hp.tk.length ≤ m) (hd : ∀ β τ, d0.rn β τ = d0)
 (h : Eff M f args hp fun d h => D.closed d = true ∧ d.er = d0 ∧ h.cut n m = hp1) : Eff M f args hp fun d h => d = d0 ∧ h = hp1 := by
 refine ⟨h.1, fun w g xs hA hH hargs => (h.2 w g xs hA hH hargs).mono fun e w' hp => ?_⟩
 obtain ⟨v, d, hp', g', rfl, ⟨h1, h2, h3⟩, h4, h5⟩ := hp
 have h6 := h4.cut n m (by rw [← hH.len]; exact hn) (by rw [← hH.lent]; exact hm)
 have h7 := Rel.rn _ (Ren.cut g' n m) (rel_er h1 h5)
 rw [h2, hd] at h7
 exact ⟨v, d0, _, _, rfl, ⟨rfl, h3⟩, h6, h7⟩
end GoV
end
section
set_option linter.unusedSimpArgs false
set_option linter.unusedVariables false
namespace GoV
open Go Go.RowKit
theorem inv_refl {w : World} {g : Gh} {hp : Hp} (h : HeapRel w g hp) : Inv w g hp w g :=
 ⟨h, Evo.refl _ _, Keeps.refl _ _, fun _ h => .inl h, fun _ h => .inl h, fun _ _ h => .inl h⟩
theorem inv_tokByt {w0 : World} {g0 : Gh} {hp : Hp} {w : World} {g : Gh} (h : Inv w0 g0 hp w g) (e : TypeId) :
 Inv w0 g0 { hp with tk := hp.tk ++ [.byt e []] } w (g.tok ⟨none, none, 0, 1, 0⟩) ∧ Evo w g w (g.tok ⟨none, none, 0, 1, 0⟩) := by
 obtain ⟨h1, h2⟩ := h.heap.newTok ⟨none, none, 0, 1, 0⟩ (.byt e []) ⟨by simp, by simp, by simp⟩ ⟨rfl, rfl, by simp, by simp⟩ (by simp)
 refine ⟨⟨h1, h.evo.trans h2, h.keeps, h.newr, fun n hn => ?_, h.i1⟩, h2⟩
 refine h.newt n ?_
 obtain ⟨T, hT, hb⟩ := mem_blks.1 hn
 rcases List.mem_append.1 hT with q | q
 ·exact mem_blks.2 ⟨T, q, hb⟩
 ·simp at q; subst q; simp at hb
theorem weak_bld {C : Cfg} {s : St} (b : Nat) (eB e : TypeId) (p : D) (hb : s.hp.H[b]? = some (.tcells eB [p, .lit (.slice none 0 0)])) :
 Weak C s ⟨s.env, s.scr, ⟨s.hp.H.set b (.tcells eB [p, .gs s.hp.tk.length 0]), s.hp.tk ++ [.byt e []]⟩⟩ := by
 intro w0 B a w h
 obtain ⟨G, g0, gb, g1, g2, g3, g4⟩ := h
 obtain ⟨q1, q2⟩ := inv_tokByt g0 e
 obtain ⟨n, hn⟩ : ∃ n, G.r[b]? = some n := by
  have hl := zAd hb
  rw [g0.heap.len] at hl
  exact ⟨_, List.getElem?_eq_getElem hl⟩
 obtain ⟨xs, k1, k2, k3⟩ := g0.heap.blk b _ n hb hn
 obtain ⟨x0, ys, rfl, r0, r1⟩ := k2.inv
 obtain ⟨x1, zs, rfl, r2, r3⟩ := r1.inv
 have := r3.inv_nil
 subst this
 simp only [Rel] at r2
 obtain ⟨rfl, _⟩ := r2
 have hgs : Rel w (G.tok ⟨none, none, 0, 1, 0⟩) (.gs s.hp.tk.length 0) (.slice none 0 0) := by
  simp only [Rel]
  rw [g0.heap.lent]
  exact ⟨none, 0, _, rfl, by simp, zFe _ _, by simp, fun _ => by simp⟩
 obtain ⟨u1, u2⟩ := q1.write (w' := w) b n hn ⟨_, hb, by simp⟩ (.tcells eB [p, .gs s.hp.tk.length 0])
  (fun w1 g1 he => by
   rw [k1]
   exact ⟨_, rfl, RelL.cons (Rel.evo _ (he) (Rel.evo _ q2 r0)) (RelL.one (Rel.evo _ he hgs)), k3⟩)
  (fun _ _ => rfl) rfl rfl rfl rfl
 refine ⟨_, u1, gb, g1, g2, g3, fun t => ?_⟩
 have h4 := g4 t
 unfold St.slot at *
 split
 ·rename_i j hj
  rw [hj] at h4
  exact Rel.evo _ u2 (Rel.evo _ q2 h4)
 ·rename_i hj
  rw [hj] at h4
  exact Rel.evo _ u2 (Rel.evo _ q2 h4)
section
open Go.Proofs
variable {M : Mod} {ρ : Go.Shelf.Ren}
theorem copyCheck_e (L : Lays.n240 M.P ρ) (X : Builder.X72 M.P ρ) (hc : zB7 M (ρ.f 240)) {p x : D} {V : List Tv} (hp : p = .lit (.pointer none) ∨ p = .ptr 0 0) :
 Eff M (ρ.f 240) [.ptr 0 0] ⟨[.tcells (ρ.t 72) [p, x]], V⟩ (fun d hp' => d = .tup [] ∧ hp' = ⟨[.tcells (ρ.t 72) [.ptr 0 0, x]], V⟩) := by
 refine ⟨hc, fun w g xs hA hH hargs => ?_⟩
 obtain ⟨v, vs, rfl, h1, h2⟩ := hargs.inv
 have := h2.inv_nil
 subst this
 simp only [Rel] at h1
 obtain ⟨n, hn, rfl⟩ := h1
 obtain ⟨ys, k1, k2, k3⟩ := hH.blk 0 _ n rfl hn
 obtain ⟨y0, zs, rfl, r0, r1⟩ := k2.inv
 obtain ⟨y1, zs', rfl, r2, r3⟩ := r1.inv
 have := r3.inv_nil
 subst this
 have hcell : w.cell? ⟨n, 0, none⟩ = some y0 := by simp [World.cell?, k1]
 rcases hp with rfl | rfl
 ·simp only [Rel] at r0
  obtain ⟨rfl, _⟩ := r0
  refine (Any.Builder_copyCheck_fresh L X n w hcell (by simp [World.shape?, k1]) (by simp [World.frozen?, k1])).mono fun e w' hh => ?_
  obtain ⟨rfl, rfl⟩ := hh
  obtain ⟨u1, u2⟩ := (inv_refl hH).write (w' := w.setCell ⟨n, 0, none⟩ (.pointer (some ⟨n, 0, none⟩))) 0 n hn ⟨_, rfl, by simp⟩ (.tcells (ρ.t 72) [.ptr 0 0, x])
   (fun w1 g1 he => ⟨[.pointer (some ⟨n, 0, none⟩), y1], by simp [World.setCell, Array.getElem?_modify, k1], RelL.cons (by simp only [Rel]; exact ⟨n, he.ref 0 n hn, rfl⟩) (RelL.one (Rel.evo _ he r2)), by
    intro y hy
    rcases List.mem_cons.1 hy with q | q
    ·subst q; simp [oneC, Value.oneCell']
    ·exact k3 y (by simp [List.mem_singleton.1 q])⟩)
   (fun m hm => by simp [World.setCell, Array.getElem?_modify, Ne.symm hm]) (by simp [World.setCell]) rfl rfl rfl
  exact ⟨_, _, _, _, rfl, ⟨rfl, rfl⟩, u1, by simp [Rel, RelL]⟩
 ·simp only [Rel] at r0
  obtain ⟨m, hm, rfl⟩ := r0
  rw [hn] at hm
  cases hm
  refine (Any.Builder_copyCheck_used L X n w hcell).mono fun e w' hh => ?_
  obtain ⟨rfl, rfl⟩ := hh
  exact ⟨_, _, _, _, rfl, ⟨rfl, rfl⟩, inv_refl hH, by simp [Rel, RelL]⟩
set_option maxHeartbeats 2000000 in
set_option maxRecDepth 100000 in
theorem string_row (L : Lays.n169 M.P ρ) (X : Builder.Extra M.P ρ) (b g cap : Nat) (p : Value) (T : TypeId) (l : List UInt8) (cur : Array Value) (w : World) (hbk : w.heap[b]? = some (.cells #[p, .slice (some ⟨g, 0, none⟩) l.length cap] T (0, 0))) (hg : w.heap[g]? = some (.cells cur (ρ.t 5) (0, 0)))
 (h0 : l ≠ []) (hl : l.length ≤ 140737488355328) (hnc : l.length ≤ cap) (hcs : cur.size = cap) (hcells : ∀ (j : Nat) x, l[j]? = some x → w.cell? ⟨g, j, none⟩ = some (.int .u8 x.toNat)) :
 Calls M.P (ρ.f 169) #[.pointer (some ⟨b, 0, none⟩)] w fun e w' => e = .returned (.string ⟨l.toArray⟩) ∧ w' = w.drew.freeze ⟨g, 0, none⟩ l.length := by
 have hl0 : l.length ≠ 0 := by simpa using h0
 have c1 : w.drew.cell? ⟨b, 1, none⟩ = some (.slice (some ⟨g, 0, none⟩) l.length cap) := by
  have : w.drew.heap[b]? = some (.cells #[p, .slice (some ⟨g, 0, none⟩) l.length cap] T (0, 0)) := hbk
  rw [Lib.cell_of_heap this]; rfl
 have hSD : (Builtin.unsafeSliceData_ #[(ρ.t 37)] (ρ.t 127) #[.slice (some ⟨g, 0, none⟩) l.length cap]).run M.P w.drew = .ok (.pointer (some ⟨g, 0, none⟩)) w.drew :=
  Lib.run_unsafeSliceData_row _ _ _ _ _ _ (by omega)
 have hUS : (Builtin.unsafeString_ #[(ρ.t 127), (ρ.t 3)] (ρ.t 9) #[.pointer (some ⟨g, 0, none⟩), .int .i64 l.length]).run M.P w.drew = .ok (.string ⟨l.toArray⟩) (w.drew.freeze ⟨g, 0, none⟩ l.length) := by
  refine Lib.run_unsafeString_row w.drew (ρ.t 127) (ρ.t 3) (ρ.t 9) (ρ.t 5) L.t127 X.cellsByte g cur.size (by have hg' : w.drew.heap[g]? = some (.cells cur (ρ.t 5) (0, 0)) := hg; simp [World.shape?, hg']) l h0 (by omega) (by omega) ?_
  intro j x hx
  have := hcells j x hx
  rw [Addr.add_lit, Nat.zero_add]
  exact this
 have mixed := L.mixed
 have t72 := L.t72; have a72 := L.a72; have z72 := L.z72; have v72 := L.v72; have u72 := run_underlying L.t72
 have t70 := L.t70; have a70 := L.a70; have z70 := L.z70; have v70 := L.v70; have u70 := run_underlying L.t70
 have t37 := L.t37; have a37 := L.a37; have z37 := L.z37; have v37 := L.v37; have u37 := run_underlying L.t37
 have t127 := L.t127; have a127 := L.a127; have z127 := L.z127; have v127 := L.v127; have u127 := run_underlying L.t127
 have t3 := L.t3; have a3 := L.a3; have z3 := L.z3; have v3 := L.v3; have u3 := run_underlying L.t3
 have t9 := L.t9; have a9 := L.a9; have z9 := L.z9; have v9 := L.v9; have u9 := run_underlying L.t9
 have t5 := X.t5; have a5 := X.a5; have z5 := X.z5; have v5 := X.v5; have u5 := run_underlying X.t5
 go_enter L.f169, Body.n169_ntmps ρ
 go_wp2
 go_region_o
 all_goals (go_wp2; go_ret; exact ⟨rfl, rfl⟩)
theorem string_e (L : Lays.n169 M.P ρ) (X : Builder.Extra M.P ρ) (hc : zB7 M (ρ.f 169)) {p : D} {bs : List UInt8} (hl : bs.length ≤ 140737488355328) :
 Eff M (ρ.f 169) [.ptr 0 0] ⟨[.tcells (ρ.t 72) [p, .gs 0 bs.length]], [.byt (ρ.t 5) bs]⟩ (fun d hp' => d = .str bs ∧ hp' = ⟨[.tcells (ρ.t 72) [p, .gs 0 bs.length]], [.per 1 (bs.length + 1)]⟩) := by
 refine ⟨hc, fun w g xs hA hH hargs => ?_⟩
 obtain ⟨v, vs, rfl, h1, h2⟩ := hargs.inv
 have := h2.inv_nil
 subst this
 simp only [Rel] at h1
 obtain ⟨n, hn, rfl⟩ := h1
 obtain ⟨ys, k1, k2, k3⟩ := hH.blk 0 _ n rfl hn
 obtain ⟨y0, zs, rfl, r0, r1⟩ := k2.inv
 obtain ⟨y1, zs', rfl, r2, r3⟩ := r1.inv
 have := r3.inv_nil
 subst this
 simp only [Rel] at r2
 obtain ⟨a, cap, T, rfl, hnn, hT, hlT, hsT⟩ := r2
 obtain ⟨T', hT', ⟨q1, q2, q3, q4⟩, hok⟩ := hH.tokBlk (t := 0) (V := .byt (ρ.t 5) bs) rfl
 rw [hT] at hT'; cases hT'
 obtain ⟨rfl, rfl, hb⟩ := hsT (by omega)
 have fin : ∀ {w' : World}, w'.os = w.os → w'.tape = w.tape → w'.output = w.output → w.heap.size ≤ w'.heap.size → (∀ m, m < w.heap.size → T.blk ≠ some m → w'.heap[m]? = w.heap[m]?) → (∀ c o, g.I c o → w'.cell? ⟨c, o, none⟩ = w.cell? ⟨c, o, none⟩) →
  Post w g (fun d hp' => d = .str bs ∧ hp' = ⟨[.tcells (ρ.t 72) [p, .gs 0 bs.length]], [.per 1 (bs.length + 1)]⟩) (.returned (.string ⟨bs.toArray⟩)) w' := by
  intro w' e1 e2 e3 e4 e5 e6
  obtain ⟨u1, u2⟩ := (inv_refl hH).goTok (w' := w') (T' := ⟨Option.none, Option.none, T.len + 1, 1, T.len + 1⟩) (I' := g.I) (V' := .per 1 (bs.length + 1)) hT q1.symm (.inr (by simp)) e5 e4 e1 e2 e3 (fun n hn => by simp at hn)
   (fun c o ho => ⟨ho, e6 c o ho⟩) (fun c o ho => .inl ho) ⟨by simp, by simp, by simp⟩ (fun _ => ⟨rfl, by simp [q2], by simp⟩)
  exact ⟨_, _, _, _, rfl, ⟨rfl, rfl⟩, u1, by simp [Rel]⟩
 have old : ∀ {w' : World}, Below w.heap.size w w' → Post w g (fun d hp' => d = .str bs ∧ hp' = ⟨[.tcells (ρ.t 72) [p, .gs 0 bs.length]], [.per 1 (bs.length + 1)]⟩) (.returned (.string ⟨bs.toArray⟩)) w' := by
  intro w' hb'
  exact fin hb'.os hb'.tape hb'.output hb'.size (fun m hm _ => hb'.block m hm) (fun c o ho => cell_of_heap (hb'.block c (hH.imm c o ho).1))
 cases hTb : T.blk with
 | none =>
   obtain ⟨z1, z2⟩ := q3 hTb
   have hlen : bs = [] := List.eq_nil_of_length_eq_zero (by omega)
   subst hlen
   have hcap : T.cap = 0 := by rw [← hok.2.1 hTb]; exact z1
   rw [z2, hcap] at k1
   refine (Any.Builder_String_nil L X w.heap.size n y0 w k1).mono fun e w' hh => ?_
   obtain ⟨rfl, hb'⟩ := hh
   exact old hb'
 | some m =>
   obtain ⟨hI, ys, z1, z2⟩ := q4 m hTb
   obtain ⟨had, _, hlc, ys', e', z3, z4, z5⟩ := hok.2.2 m hTb
   rw [z1] at z3; cases z3
   rw [had] at k1
   rw [q1, Nat.mul_one] at z4
   by_cases hz : bs = []
   ·subst hz
    by_cases hcap : T.cap = 0
    ·rw [hcap] at k1
     refine (Any.Builder_String_noroom L X w.heap.size n m y0 ys w (Nat.le_refl _) k1 z1).mono fun e w' hh => ?_
     obtain ⟨rfl, hb'⟩ := hh
     exact old hb'
    ·refine (Any.Builder_String_room L X w.heap.size n m T.cap y0 w hcap k1).mono fun e w' hh => ?_
     obtain ⟨rfl, hb'⟩ := hh
     exact old hb'
   ·refine (string_row L X n m T.cap y0 (ρ.t 72) bs ys w k1 z1 hz hl (by omega) z4 (fun j x hx => ?_)).mono fun e w' hh => ?_
    ·have hj := zAd hx
     have h3 := congrArg (fun l => l[j]?) z2
     simp only [List.getElem?_map, hx, Option.map_some] at h3
     rw [List.getElem?_take, if_pos (by omega)] at h3
     rw [zC2 z1, ← Array.getElem?_toList]
     exact h3
    ·obtain ⟨rfl, rfl⟩ := hh
     have hfr : ∀ c, m ≠ c → (w.drew.freeze ⟨m, 0, none⟩ bs.length).heap[c]? = w.heap[c]? := by
      intro c hc
      unfold World.freeze
      split
      ·rfl
      ·simp [Array.getElem?_modify, hc]; rfl
     have hsz : (w.drew.freeze ⟨m, 0, none⟩ bs.length).heap.size = w.heap.size := by
      unfold World.freeze
      split
      ·rfl
      ·simp
     have hos : ∀ w : World, (w.freeze ⟨m, 0, none⟩ bs.length).os = w.os ∧ (w.freeze ⟨m, 0, none⟩ bs.length).tape = w.tape ∧ (w.freeze ⟨m, 0, none⟩ bs.length).output = w.output := by
      intro w
      unfold World.freeze
      split <;> exact ⟨rfl, rfl, rfl⟩
     refine fin (hos w.drew).1 (hos w.drew).2.1 (hos w.drew).2.2 (Nat.le_of_eq hsz.symm) (fun c _ hne => hfr c fun e => hne (by rw [hTb, e])) (fun c o ho => cell_of_heap (hfr c fun e => by subst e; exact hI o ho))
end
end GoV
end
section
set_option linter.unusedSimpArgs false
set_option linter.unusedVariables false
namespace GoV
open Go
def Hp.dead (hp : Hp) : Prop := ∃ t : Nat, hp.tk[t]? = some (.per 0 0)
theorem sim_dead {C : Cfg} {w0 : World} {B : Gh} {s : St} {a : Act} {w : World} (hd : s.hp.dead) : ¬ Sim C w0 B s a w := by
 rintro ⟨G, g0, _⟩
 obtain ⟨t, ht⟩ := hd
 have hl := g0.heap.lent
 have h0 := zAd ht
 rw [hl] at h0
 have h1 := g0.heap.tv t (.per 0 0) G.tk[t] ht (List.getElem?_eq_getElem h0)
 have h2 := g0.heap.tok G.tk[t] (List.getElem_mem h0)
 have h3 : 0 = G.tk[t].k := h1.1
 have h4 : 0 < G.tk[t].k := h2.1
 omega
theorem swp_none {C : Cfg} {rc : RC} {Q : Ex → St → Prop} {s : St} (h : SWp C rc (fun _ s' => s'.hp.dead) s) : SWp C rc Q s :=
 ⟨fun c hc w0 B hA a w hs => zEq (h.run c hc w0 B hA a w hs) fun e a w hl => by
  cases e <;> simp only [Lift] at hl ⊢ <;> first | exact hl | (obtain ⟨s, h1, h2⟩ := hl; exact (sim_dead h2 h1).elim)⟩
theorem swp_regP {C : Cfg} {Q : Ex → St → Prop} {s : St} {qs : List (RO × Bool)} {ros : List RO} (F : (Nat → Bool) → Hp) (h0 : F (fun _ => false) = s.hp)
 (h : opsF C.M F 0 qs (fun s1 => opsWp C.M ros (fun s' => s'.hp.dead) s1) s) : SWp C (.regD qs ros) Q s :=
 swp_none (zBx F h0 h)
theorem any_pan {M : Mod} {F : (Nat → Bool) → Hp} {i : Nat} {f : FuncId} {first cap ds ds' : List D} {d : D} {hp hp0 : Hp} {R : D → Hp → Prop} (bl tl : List Nat) (h : Xff M f ds' hp0 R) (hF : ∀ E : Nat → Bool, E i = false → F E = hp) (hs : SelOk hp bl tl)
 (hd : D.rnL (posF bl) (posF tl) (first ++ ds ++ cap) = ds') (hh : hp.sel bl tl = hp0)
 (hk : ∀ d hp1, R d hp1 → M.pan (d.rn (bakF bl hp.H.length) (bakF tl hp.tk.length)) (hp.back bl tl hp1)) : AnyF M F i .call (.fn (.func f) first cap :: ds) d := fun E hE => by
 rw [hF E hE]
 simp only [OcWp, zAa, isPan, if_true]
 exact call_pan bl tl h hs hd hh hk
end GoV
end
section
set_option linter.unusedSimpArgs false
set_option linter.unusedVariables false
namespace GoV
open Go
def agrees (T : List Nat) (a0 a : Act) : Prop := ∀ t ∈ T, a.tmps.getD t Go.undef = a0.tmps.getD t Go.undef
def noW (T : List Nat) (ops : Array Oper) : Bool := ops.all fun o => match o.dst with
 | none => true
 | some t => !T.contains t
def noWC (T : List Nat) : Code → Bool
 | .seq x y => noWC T x && noWC T y
 | .cond _ x y => noWC T x && noWC T y
 | .region _ ops _ => noW T ops
 | .ret => true
 | .skip => true
 | .label _ => true
 | _ => false
theorem zC6 {T : List Nat} {a0 a : Act} {dst : Option Nat} {v : Value} (h : agrees T a0 a) (hd : ∀ t, dst = some t → t ∉ T) : agrees T a0 (a.put dst v) := by
 intro t ht
 cases dst with
 | none => exact h t ht
 | some u =>
   have hne : u ≠ t := fun e => hd u rfl (e ▸ ht)
   rw [← h t ht]
   simp only [Act.put, Array.getD_eq_getD_getElem?, Array.getElem?_setIfInBounds]
   rw [if_neg hne]
def QK (T : List Nat) (a0 : Act) (Q : Exit → Act → World → Prop) : Exit → Act → World → Prop := fun e a w => Q e a w ∧ (e ≠ .outgrown → agrees T a0 a)
theorem zDi {F : Fence} {n : Nat} {P : Program} {ops : Array Oper} {Q : Exit → Act → World → Prop} {T : List Nat} {a0 : Act} (hT : noW T ops = true) :
 ∀ (l : List Nat) (a : Act) (w : World), wpOpsIn F n P ops Q l a w → agrees T a0 a → wpOpsIn F n P ops (QK T a0 Q) l a w
 | [], a, w, h, ha => ⟨h, fun _ => ha⟩
 | i :: l, a, w, h, ha => by
   simp only [wpOpsIn] at h ⊢
   cases ho : ops[i]? with
   | none => simp only [ho] at h ⊢; exact zDi hT l a w h ha
   | some o =>
     simp only [ho] at h ⊢
     have hd : ∀ t, o.dst = some t → t ∉ T := by
      intro t e
      have hm : o ∈ ops := Array.mem_of_getElem? ho
      have := (Array.all_eq_true_iff_forall_mem.1 hT) o hm
      rw [e] at this
      simpa using this
     split at h
     ·rename_i hw
      rw [if_pos hw]
      obtain ⟨h1, h2⟩ := h
      refine ⟨h1, ?_⟩
      generalize (o.semAt F.round a.eval).run P w = r at h2 ⊢
      unfold Oper.uponIn at h2 ⊢
      split at h2
      iterate 2
       ·exact zDi hT l _ _ h2 (zC6 ha hd)
      ·exact zDi hT l _ _ h2 (zC6 (a := { a with defers := _ :: a.defers }) ha hd)
      ·refine ⟨h2.1, h2.2.mono fun e w' hp => ?_⟩
       cases e with
       | returned v => exact zDi hT l _ _ hp (zC6 ha hd)
       | panicked ch => exact ⟨hp, fun _ => ha⟩
       | outgrown => obtain ⟨a1, w1, q⟩ := hp; exact ⟨a1, w1, q, fun e => absurd rfl e⟩
      ·exact ⟨h2.1, h2.2.mono fun v w' hp => zDi hT l _ _ hp (zC6 ha hd)⟩
      ·refine ⟨h2.1, h2.2.mono fun e w' hp => ?_⟩
       cases e with
       | returned v => exact zDi hT l _ _ hp (zC6 ha hd)
       | panicked ch => exact ⟨hp, fun _ => ha⟩
       | outgrown => obtain ⟨a1, w1, q⟩ := hp; exact ⟨a1, w1, q, fun e => absurd rfl e⟩
      ·exact ⟨h2, fun _ => ha⟩
      ·exact h2.elim
     ·rename_i hw
      rw [if_neg hw]
      exact ⟨h.1, zDi hT l _ _ h.2 (zC6 ha hd)⟩
structure KWp (C : Cfg) (T : List Nat) (a0 : Act) (rc : RC) (Q : Ex → St → Prop) (s : St) : Prop where
 run : ∀ c, zAc C c = some rc → noWC T c = true → ∀ w0 B, C.M.start w0 B → ∀ a w, Sim C w0 B s a w → agrees T a0 a → wpE C.P c (QK T a0 (Lift C w0 B Q)) a w
section
variable {C : Cfg} {T : List Nat} {a0 : Act} {Q : Ex → St → Prop} {s : St}
theorem kwp_skip (h : Q .normal s) : KWp C T a0 .skip Q s := by
 refine ⟨fun c hc hn w0 B hA a w hs ha => ?_⟩
 have hreg : ∀ id ops d, c = .region id ops d → _ := fun id ops d e => zAv (e ▸ hc)
 cases c <;> (try simp only [zAc] at hc) <;> (try (cases hc; done))
 case skip => exact fun _ => wpIn_skip ⟨⟨s, hs, h⟩, fun _ => ha⟩
 case label => exact fun _ => wpIn_label ⟨⟨s, hs, h⟩, fun _ => ha⟩
 case region _ ops d => exfalso; have := hreg _ _ _ rfl; simp at this
 all_goals (repeat' split at hc) <;> simp_all
theorem kwp_ret (h : Q .ret s) : KWp C T a0 .ret Q s := by
 refine ⟨fun c hc hn w0 B hA a w hs ha => ?_⟩
 have hreg : ∀ id ops d, c = .region id ops d → _ := fun id ops d e => zAv (e ▸ hc)
 cases c <;> (try simp only [zAc] at hc) <;> (try (cases hc; done))
 case ret => exact fun _ => wpIn_ret ⟨⟨s, hs, h⟩, fun _ => ha⟩
 case region _ ops d => exfalso; have := hreg _ _ _ rfl; simp at this
 all_goals exfalso; (repeat' split at hc) <;> simp_all
theorem kwp_reg {ros : List RO} (h : opsWp C.M ros (fun s' => Q .normal s'.done) s) : KWp C T a0 (.reg ros) Q s := by
 refine ⟨fun c hc hn w0 B hA a w hs ha => ?_⟩
 have hreg : ∀ id ops d, c = .region id ops d → _ := fun id ops d e => zAv (e ▸ hc)
 cases c <;> (try simp only [zAc] at hc) <;> (try (cases hc; done))
 case region _ ops d =>
  rcases hreg _ _ _ rfl with ⟨r, h1, rfl, hr⟩ | ⟨r, h1, _⟩ | h1
  ·cases h1
   refine fun ro => wpIn_region (zDi hn _ _ _ (zFv ⟨hA, lift_pq⟩ (K := fun s' => Q .normal s'.done) (fun s a w hk hs => ?_) _ _ s a w hr h hs) ha)
   exact ⟨s.done, zEc _ _ _ _ hs, hk⟩
  iterate 2
   ·cases h1
 all_goals exfalso; (repeat' split at hc) <;> simp_all
theorem kwp_seq {x y : RC} (h : KWp C T a0 x (fun e s' => match e with | .normal => KWp C T a0 y Q s' | e => Q e s') s) : KWp C T a0 (.seq x y) Q s := by
 refine ⟨fun c hc hn w0 B hA a w hs ha => ?_⟩
 have hreg : ∀ id ops d, c = .region id ops d → _ := fun id ops d e => zAv (e ▸ hc)
 cases c <;> (try simp only [zAc] at hc) <;> (try (cases hc; done))
 case seq ca cb =>
  simp only [noWC, Bool.and_eq_true] at hn
  cases hca : zAc C ca with
  | none => simp [hca] at hc
  | some p =>
    cases hb : zAc C cb with
    | none => simp [hca, hb] at hc
    | some q =>
      simp [hca, hb] at hc
      obtain ⟨rfl, rfl⟩ := hc
      refine wpE_seq (zEq (h.run ca hca hn.1 w0 B hA a w hs ha) fun e a' w' hl => ?_)
      obtain ⟨hl, hk⟩ := hl
      cases e <;> simp only [Lift, Exit.then] at hl ⊢ <;> try exact ⟨hl, hk⟩
      obtain ⟨s', h1, h2⟩ := hl
      exact h2.run cb hb hn.2 w0 B hA a' w' h1 (hk (by simp))
 case region _ ops d => exfalso; have := hreg _ _ _ rfl; simp at this
 all_goals exfalso; (repeat' split at hc) <;> simp_all
theorem kwp_cond {g : Opd} {x y : RC} {t : Bool} (hg : s.get g = .bool t) (h1 : t = true → KWp C T a0 x Q (s.setO g (.bool true))) (h2 : t = false → KWp C T a0 y Q (s.setO g (.bool false))) : KWp C T a0 (.cond g x y) Q s := by
 refine ⟨fun c hc hn w0 B hA a w hs hag => ?_⟩
 have hreg : ∀ id ops d, c = .region id ops d → _ := fun id ops d e => zAv (e ▸ hc)
 cases c <;> (try simp only [zAc] at hc) <;> (try (cases hc; done))
 case cond co ca cb =>
  simp only [noWC, Bool.and_eq_true] at hn
  cases ho : resO C co with
  | none => simp [ho] at hc
  | some g' =>
    cases ha : zAc C ca with
    | none => simp [ho, ha] at hc
    | some p =>
      cases hb : zAc C cb with
      | none => simp [ho, ha, hb] at hc
      | some q =>
        simp [ho, ha, hb] at hc
        obtain ⟨rfl, rfl, rfl⟩ := hc
        have hs0 := hs
        obtain ⟨G, g0, gb, g1, g2, g3, g4⟩ := hs
        have hv := zEy g4 ho
        rw [hg] at hv; simp only [Rel] at hv
        have nar : Sim C w0 B (s.setO g' (.bool t)) a w := by
         cases co with
         | tmp u =>
           refine ⟨G, by rw [zDm]; exact g0, gb, g1, g2, by rw [zCf]; exact g3, fun u' => ?_⟩
           rw [zEh (zDf ho).1 g3]
           split
           ·rename_i e; subst e
            simp only [Act.eval] at hv
            simp only [Rel]; exact hv
           ·exact g4 u'
         | const v =>
           simp only [resO] at ho
           cases hd : toD v with
           | none => simp [hd] at ho
           | some d => simp [hd] at ho; subst ho; simpa [St.setO] using hs0
         | global n => simp [resO] at ho
         | func f => simp [resO] at ho; subst ho; simpa [St.setO] using hs0
        refine fun ro => wpIn_cond_split hv (fun e => ?_) (fun e => ?_)
        ·subst e; exact (h1 rfl).run ca ha hn.1 w0 B hA a w nar hag ro
        ·subst e; exact (h2 rfl).run cb hb hn.2 w0 B hA a w nar hag ro
 case region _ ops d => exfalso; have := hreg _ _ _ rfl; simp at this
 all_goals exfalso; (repeat' split at hc) <;> simp_all
def KCd (C : Cfg) (T : List Nat) (a0 : Act) (b : D) (g : Opd) (x y : RC) (Q : Ex → St → Prop) (s : St) : Prop :=
 match b with
 | .bool t => (t = true → KWp C T a0 x Q (s.setO g (.bool true))) ∧ (t = false → KWp C T a0 y Q (s.setO g (.bool false)))
 | _ => False
theorem kwp_cd {g : Opd} {x y : RC} (h : KCd C T a0 (s.get g) g x y Q s) : KWp C T a0 (.cond g x y) Q s := by
 unfold KCd at h
 split at h
 ·rename_i t ht; exact kwp_cond ht h.1 h.2
 ·exact h.elim
theorem e_kcdT {g : Opd} {x y : RC} : KCd C T a0 (.bool true) g x y Q s = KWp C T a0 x Q (s.setO g (.bool true)) := by simp [KCd]
theorem e_kcdF {g : Opd} {x y : RC} : KCd C T a0 (.bool false) g x y Q s = KWp C T a0 y Q (s.setO g (.bool false)) := by simp [KCd]
end
theorem putAt_take {α : Type} {k : Nat} : ∀ (bl : List Nat) (xs H : List α), (∀ b ∈ bl, k ≤ b) → (putAt bl xs H).take k = H.take k
 | [], _, _, _ => by simp [putAt]
 | _ :: _, [], _, _ => by simp [putAt]
 | b :: bl, x :: xs, H, h => by
   simp only [putAt]
   rw [putAt_take bl xs (H.set b x) (fun b hb => h b (by simp [hb])), List.take_set_of_le (h b (by simp))]
theorem back_take {hp hp1 : Hp} {bl tl : List Nat} {k : Nat} (h : ∀ b ∈ bl, k ≤ b) (hk : k ≤ hp.H.length) : (hp.back bl tl hp1).H.take k = hp.H.take k := by
 simp only [Hp.back]
 rw [List.take_append_of_le_length (by rw [zAm]; exact hk), putAt_take _ _ _ h]
end GoV
end
section
namespace Go.Proofs
open Go.Shelf
def Tryd.lays169_ren : Go.Shelf.Ren := ⟨fun | 169 => 42 | n => n, fun | 70 => 79 | 9 => 9 | 0 => 0 | 72 => 82 | 37 => 80 | 127 => 105 | 3 => 3 | 5 => 5 | n => n, fun | n => n⟩
theorem Tryd.lays169 : Go.Proofs.Lays.n169 Tryd.prog Tryd.lays169_ren := {
 mixed := by kernel_rfl
 f169 := Tryd.func42.trans (congrArg some (by kernel_rfl))
 t0 := Tryd.underlying0
 a0 := Tryd.isAgg0
 z0 := Tryd.sizeOf0
 v0 := Tryd.zeroValue0
 t3 := Tryd.underlying3
 a3 := Tryd.isAgg3
 z3 := Tryd.sizeOf3
 v3 := Tryd.zeroValue3
 t9 := Tryd.underlying9
 a9 := Tryd.isAgg9
 z9 := Tryd.sizeOf9
 v9 := Tryd.zeroValue9
 t37 := Tryd.underlying80
 a37 := Tryd.isAgg80
 z37 := Tryd.sizeOf80
 v37 := Tryd.zeroValue80
 t70 := Tryd.underlying79
 a70 := Tryd.isAgg79
 z70 := Tryd.sizeOf79
 v70 := Tryd.zeroValue79
 t72 := Tryd.underlying82
 a72 := Tryd.isAgg82
 z72 := Tryd.sizeOf82
 v72 := Tryd.zeroValue82
 t127 := Tryd.underlying105
 a127 := Tryd.isAgg105
 z127 := Tryd.sizeOf105
 v127 := Tryd.zeroValue105 }
theorem Tryd.Builder_Extra_169 : Builder.Extra Tryd.prog Tryd.lays169_ren := {
 sizeBuilder := by kernel_rfl
 liesBuilder := by kernel_rfl
 t5 := Tryd.underlying5
 a5 := Tryd.isAgg5
 z5 := Tryd.sizeOf5
 v5 := Tryd.zeroValue5
 infoByte := by kernel_rfl
 cellsByte := by kernel_rfl
 sizeByte := by kernel_rfl
 neB5 := by decide }
def Tryd.lays137_ren : Go.Shelf.Ren := ⟨fun | 137 => 55 | 217 => 60 | 266 => 67 | n => n, fun | 9 => 9 | 5 => 5 | 3 => 3 | n => n, fun | n => n⟩
theorem Tryd.lays137 : Go.Proofs.Lays.n137 Tryd.prog Tryd.lays137_ren := {
 mixed := by kernel_rfl
 f137 := Tryd.func55.trans (congrArg some (by kernel_rfl))
 f217 := Tryd.func60.trans (congrArg some (by kernel_rfl))
 f266 := Tryd.func67.trans (congrArg some (by kernel_rfl))
 t3 := Tryd.underlying3
 a3 := Tryd.isAgg3
 z3 := Tryd.sizeOf3
 v3 := Tryd.zeroValue3
 t5 := Tryd.underlying5
 a5 := Tryd.isAgg5
 z5 := Tryd.sizeOf5
 v5 := Tryd.zeroValue5
 t9 := Tryd.underlying9
 a9 := Tryd.isAgg9
 z9 := Tryd.sizeOf9
 v9 := Tryd.zeroValue9 }
open Go.RowKit in
theorem Tryd.strings_IndexByte (s : ByteArray) (c : Int) (w : World) :
 Calls Tryd.prog 55 #[.string s, .int .u8 c] w fun e w' => e = .returned (.int .i64 (Lib.indexByte s.data.toList c.toNat.toUInt8)) ∧ w' = w := Any.strings_IndexByte Tryd.lays137 s c w
def Tryd.lays172_ren : Go.Shelf.Ren := ⟨fun | 172 => 58 | 244 => 65 | 245 => 66 | 247 => 73 | 279 => 74 | 280 => 75 | 281 => 76 | 282 => 77 | 287 => 80 | 316 => 81 | 171 => 43 | 205 => 82 | 321 => 83 | 322 => 84 | 243 => 52 | 246 => 57 | 283 => 61 | 284 => 62 | 285 => 63 | 286 => 64 | 129 => 69 | 317 => 68 | 318 => 70 | 319 => 71 | 320 => 72 | 337 => 78 | 338 => 79 | n => n, fun | 9 => 9 | 3 => 3 | 75 => 84 | 76 => 86 | 4 => 4 | 5 => 5 | 167 => 127 | 37 => 80 | 0 => 0 | 85 => 128 | 2 => 2 | 168 => 130 | 53 => 114 | 175 => 134 | 46 => 125 | 210 => 137 | 127 => 105 | 145 => 144 | 143 => 142 | 21 => 21 | 171 => 113 | 173 => 117 | 212 => 121 | 51 => 122 | 20 => 20 | 213 => 123 | 232 => 139 | 233 => 140 | 80 => 88 | n => n, fun | 15 => 2 | 16 => 3 | 17 => 0 | 18 => 4 | 19 => 5 | n => n⟩
theorem Tryd.lays172 : Go.Proofs.Lays.n172 Tryd.prog Tryd.lays172_ren := {
 mixed := by kernel_rfl
 f129 := Tryd.func69.trans (congrArg some (by kernel_rfl))
 f171 := Tryd.func43.trans (congrArg some (by kernel_rfl))
 f172 := Tryd.func58.trans (congrArg some (by kernel_rfl))
 f205 := Tryd.func82.trans (congrArg some (by kernel_rfl))
 f243 := Tryd.func52.trans (congrArg some (by kernel_rfl))
 f244 := Tryd.func65.trans (congrArg some (by kernel_rfl))
 f245 := Tryd.func66.trans (congrArg some (by kernel_rfl))
 f246 := Tryd.func57.trans (congrArg some (by kernel_rfl))
 f247 := Tryd.func73.trans (congrArg some (by kernel_rfl))
 f279 := Tryd.func74.trans (congrArg some (by kernel_rfl))
 f280 := Tryd.func75.trans (congrArg some (by kernel_rfl))
 f281 := Tryd.func76.trans (congrArg some (by kernel_rfl))
 f282 := Tryd.func77.trans (congrArg some (by kernel_rfl))
 f283 := Tryd.func61.trans (congrArg some (by kernel_rfl))
 f284 := Tryd.func62.trans (congrArg some (by kernel_rfl))
 f285 := Tryd.func63.trans (congrArg some (by kernel_rfl))
 f286 := Tryd.func64.trans (congrArg some (by kernel_rfl))
 f287 := Tryd.func80.trans (congrArg some (by kernel_rfl))
 f316 := Tryd.func81.trans (congrArg some (by kernel_rfl))
 f317 := Tryd.func68.trans (congrArg some (by kernel_rfl))
 f318 := Tryd.func70.trans (congrArg some (by kernel_rfl))
 f319 := Tryd.func71.trans (congrArg some (by kernel_rfl))
 f320 := Tryd.func72.trans (congrArg some (by kernel_rfl))
 f321 := Tryd.func83.trans (congrArg some (by kernel_rfl))
 f322 := Tryd.func84.trans (congrArg some (by kernel_rfl))
 f337 := Tryd.func78.trans (congrArg some (by kernel_rfl))
 f338 := Tryd.func79.trans (congrArg some (by kernel_rfl))
 t0 := Tryd.underlying0
 a0 := Tryd.isAgg0
 z0 := Tryd.sizeOf0
 v0 := Tryd.zeroValue0
 t2 := Tryd.underlying2
 a2 := Tryd.isAgg2
 z2 := Tryd.sizeOf2
 v2 := Tryd.zeroValue2
 t3 := Tryd.underlying3
 a3 := Tryd.isAgg3
 z3 := Tryd.sizeOf3
 v3 := Tryd.zeroValue3
 t4 := Tryd.underlying4
 a4 := Tryd.isAgg4
 z4 := Tryd.sizeOf4
 v4 := Tryd.zeroValue4
 t5 := Tryd.underlying5
 a5 := Tryd.isAgg5
 z5 := Tryd.sizeOf5
 v5 := Tryd.zeroValue5
 t9 := Tryd.underlying9
 a9 := Tryd.isAgg9
 z9 := Tryd.sizeOf9
 v9 := Tryd.zeroValue9
 t20 := Tryd.underlying20
 a20 := Tryd.isAgg20
 z20 := Tryd.sizeOf20
 v20 := Tryd.zeroValue20
 t21 := Tryd.underlying21
 a21 := Tryd.isAgg21
 z21 := Tryd.sizeOf21
 v21 := Tryd.zeroValue21
 t37 := Tryd.underlying80
 a37 := Tryd.isAgg80
 z37 := Tryd.sizeOf80
 v37 := Tryd.zeroValue80
 t46 := Tryd.underlying125
 a46 := Tryd.isAgg125
 z46 := Tryd.sizeOf125
 v46 := Tryd.zeroValue125
 t51 := Tryd.underlying122
 a51 := Tryd.isAgg122
 z51 := Tryd.sizeOf122
 v51 := Tryd.zeroValue122
 t53 := Tryd.underlying114
 a53 := Tryd.isAgg114
 z53 := Tryd.sizeOf114
 v53 := Tryd.zeroValue114
 t75 := Tryd.underlying84
 a75 := Tryd.isAgg84
 z75 := Tryd.sizeOf84
 v75 := Tryd.zeroValue84
 t76 := Tryd.underlying86
 a76 := Tryd.isAgg86
 z76 := Tryd.sizeOf86
 v76 := Tryd.zeroValue86
 t85 := Tryd.underlying128
 a85 := Tryd.isAgg128
 z85 := Tryd.sizeOf128
 v85 := Tryd.zeroValue128
 t127 := Tryd.underlying105
 a127 := Tryd.isAgg105
 z127 := Tryd.sizeOf105
 v127 := Tryd.zeroValue105
 t143 := Tryd.underlying142
 a143 := Tryd.isAgg142
 z143 := Tryd.sizeOf142
 v143 := Tryd.zeroValue142
 t145 := Tryd.underlying144
 a145 := Tryd.isAgg144
 z145 := Tryd.sizeOf144
 v145 := Tryd.zeroValue144
 t167 := Tryd.underlying127
 a167 := Tryd.isAgg127
 z167 := Tryd.sizeOf127
 v167 := Tryd.zeroValue127
 t168 := Tryd.underlying130
 a168 := Tryd.isAgg130
 z168 := Tryd.sizeOf130
 v168 := Tryd.zeroValue130
 t171 := Tryd.underlying113
 a171 := Tryd.isAgg113
 z171 := Tryd.sizeOf113
 v171 := Tryd.zeroValue113
 t173 := Tryd.underlying117
 a173 := Tryd.isAgg117
 z173 := Tryd.sizeOf117
 v173 := Tryd.zeroValue117
 t175 := Tryd.underlying134
 a175 := Tryd.isAgg134
 z175 := Tryd.sizeOf134
 v175 := Tryd.zeroValue134
 t210 := Tryd.underlying137
 a210 := Tryd.isAgg137
 z210 := Tryd.sizeOf137
 v210 := Tryd.zeroValue137
 t212 := Tryd.underlying121
 a212 := Tryd.isAgg121
 z212 := Tryd.sizeOf121
 v212 := Tryd.zeroValue121
 t213 := Tryd.underlying123
 a213 := Tryd.isAgg123
 z213 := Tryd.sizeOf123
 t232 := Tryd.underlying139
 a232 := Tryd.isAgg139
 z232 := Tryd.sizeOf139
 v232 := Tryd.zeroValue139
 t233 := Tryd.underlying140
 a233 := Tryd.isAgg140
 z233 := Tryd.sizeOf140
 v233 := Tryd.zeroValue140
 g15 := by kernel_rfl
 g16 := by kernel_rfl
 g17 := by kernel_rfl
 g18 := by kernel_rfl
 g19 := by kernel_rfl }
open Go.RowKit in
theorem Tryd.strconv_Atoi (s : ByteArray) (n : Int) (hl : s.size ≤ 18) (h : Lib.atoi s.data.toList = some n) (w : World) :
 Calls Tryd.prog 58 #[.string s] w fun e w' => e = .returned (.tuple #[.int .i64 n, .nilIface]) ∧ ∃ t, w' = Lib.bytesWorld w 5 t := Any.strconv_Atoi Tryd.lays172 s n hl h w
def Tryd.laysM171_ren : Go.Shelf.Ren := ⟨fun | 171 => 43 | 243 => 52 | 246 => 57 | 283 => 61 | 284 => 62 | 285 => 63 | 286 => 64 | 129 => 69 | 317 => 68 | 318 => 70 | 319 => 71 | 320 => 72 | 337 => 78 | 338 => 79 | n => n, fun | 3 => 3 | 9 => 9 | 2 => 2 | 4 => 4 | 171 => 113 | 0 => 0 | 53 => 114 | 37 => 80 | 5 => 5 | 173 => 117 | 212 => 121 | 51 => 122 | 20 => 20 | 213 => 123 | 46 => 125 | 232 => 139 | 233 => 140 | n => n, fun | 17 => 0 | 18 => 4 | 19 => 5 | n => n⟩
theorem Tryd.laysM171 : Go.Proofs.LaysM.n171 Tryd.prog Tryd.laysM171_ren := {
 mixed := by kernel_rfl
 f129 := Tryd.func69.trans (congrArg some (by kernel_rfl))
 f171 := Tryd.func43.trans (congrArg some (by kernel_rfl))
 f243 := Tryd.func52.trans (congrArg some (by kernel_rfl))
 f246 := Tryd.func57.trans (congrArg some (by kernel_rfl))
 f283 := Tryd.func61.trans (congrArg some (by kernel_rfl))
 f284 := Tryd.func62.trans (congrArg some (by kernel_rfl))
 f285 := Tryd.func63.trans (congrArg some (by kernel_rfl))
 f286 := Tryd.func64.trans (congrArg some (by kernel_rfl))
 f317 := Tryd.func68.trans (congrArg some (by kernel_rfl))
 f318 := Tryd.func70.trans (congrArg some (by kernel_rfl))
 f319 := Tryd.func71.trans (congrArg some (by kernel_rfl))
 f320 := Tryd.func72.trans (congrArg some (by kernel_rfl))
 f337 := Tryd.func78.trans (congrArg some (by kernel_rfl))
 f338 := Tryd.func79.trans (congrArg some (by kernel_rfl))
 t0 := Tryd.underlying0
 a0 := Tryd.isAgg0
 z0 := Tryd.sizeOf0
 v0 := Tryd.zeroValue0
 t2 := Tryd.underlying2
 a2 := Tryd.isAgg2
 z2 := Tryd.sizeOf2
 v2 := Tryd.zeroValue2
 t3 := Tryd.underlying3
 a3 := Tryd.isAgg3
 z3 := Tryd.sizeOf3
 v3 := Tryd.zeroValue3
 t4 := Tryd.underlying4
 a4 := Tryd.isAgg4
 z4 := Tryd.sizeOf4
 v4 := Tryd.zeroValue4
 t5 := Tryd.underlying5
 a5 := Tryd.isAgg5
 z5 := Tryd.sizeOf5
 v5 := Tryd.zeroValue5
 t9 := Tryd.underlying9
 a9 := Tryd.isAgg9
 z9 := Tryd.sizeOf9
 v9 := Tryd.zeroValue9
 t20 := Tryd.underlying20
 a20 := Tryd.isAgg20
 z20 := Tryd.sizeOf20
 v20 := Tryd.zeroValue20
 t37 := Tryd.underlying80
 a37 := Tryd.isAgg80
 z37 := Tryd.sizeOf80
 v37 := Tryd.zeroValue80
 t46 := Tryd.underlying125
 a46 := Tryd.isAgg125
 z46 := Tryd.sizeOf125
 v46 := Tryd.zeroValue125
 t51 := Tryd.underlying122
 a51 := Tryd.isAgg122
 z51 := Tryd.sizeOf122
 v51 := Tryd.zeroValue122
 t53 := Tryd.underlying114
 a53 := Tryd.isAgg114
 z53 := Tryd.sizeOf114
 v53 := Tryd.zeroValue114
 t171 := Tryd.underlying113
 a171 := Tryd.isAgg113
 z171 := Tryd.sizeOf113
 v171 := Tryd.zeroValue113
 t173 := Tryd.underlying117
 a173 := Tryd.isAgg117
 z173 := Tryd.sizeOf117
 v173 := Tryd.zeroValue117
 t212 := Tryd.underlying121
 a212 := Tryd.isAgg121
 z212 := Tryd.sizeOf121
 v212 := Tryd.zeroValue121
 t213 := Tryd.underlying123
 a213 := Tryd.isAgg123
 z213 := Tryd.sizeOf123
 t232 := Tryd.underlying139
 a232 := Tryd.isAgg139
 z232 := Tryd.sizeOf139
 v232 := Tryd.zeroValue139
 t233 := Tryd.underlying140
 a233 := Tryd.isAgg140
 z233 := Tryd.sizeOf140
 v233 := Tryd.zeroValue140
 g17 := by kernel_rfl
 g18 := by kernel_rfl
 g19 := by kernel_rfl
 i0 := by kernel_rfl
 i2 := by kernel_rfl
 i3 := by kernel_rfl
 i4 := by kernel_rfl
 i5 := by kernel_rfl
 i9 := by kernel_rfl
 i20 := by kernel_rfl
 i37 := by kernel_rfl
 i46 := by kernel_rfl
 i51 := by kernel_rfl
 i53 := by kernel_rfl
 i171 := by kernel_rfl
 i173 := by kernel_rfl
 i212 := by kernel_rfl
 i232 := by kernel_rfl
 i233 := by kernel_rfl
 m17 := by kernel_rfl
 m18 := by kernel_rfl
 m19 := by kernel_rfl }
open Go.RowKit Go.Sort Go.Lib in
theorem Tryd.strconv_Itoa (n : Int) (h0 : -9223372036854775808 ≤ n) (h1 : n ≤ 9223372036854775807) (w : World) (htab : Lib.TabIs Tryd.prog w "internal/strconv.uint64pow10" .u64 Lib.pow10Tab) :
 Calls Tryd.prog 43 #[.int .i64 n] w fun e w' => e = .returned (.string ⟨(Lib.itoa n).toArray⟩) ∧ ∃ k os, w' = grow (w.drewN k) os := Any.strconv_Itoa Tryd.laysM171 n h0 h1 w htab
def Tryd.lays264_ren : Go.Shelf.Ren := ⟨fun | 264 => 118 | n => n, fun | 53 => 114 | 46 => 125 | n => n, fun | n => n⟩
theorem Tryd.lays264 : Go.Proofs.Lays.n264 Tryd.prog Tryd.lays264_ren := {
 mixed := by kernel_rfl
 f264 := Tryd.func118.trans (congrArg some (by kernel_rfl))
 t46 := Tryd.underlying125
 a46 := Tryd.isAgg125
 z46 := Tryd.sizeOf125
 v46 := Tryd.zeroValue125
 t53 := Tryd.underlying114
 a53 := Tryd.isAgg114
 z53 := Tryd.sizeOf114
 v53 := Tryd.zeroValue114 }
open Go.RowKit Go.Lib in
theorem Tryd.bits_Mul64 (x y : Nat) (hx : x < 18446744073709551616) (hy : y < 18446744073709551616) (w : World) :
 Calls Tryd.prog 118 #[.int .u64 x, .int .u64 y] w fun e w' => e = .returned (.tuple #[.int .u64 ((x * y / 18446744073709551616 : Nat) : Int), .int .u64 ((x * y % 18446744073709551616 : Nat) : Int)]) ∧ w' = w := Any.bits_Mul64 Tryd.lays264 x y hx hy w
end Go.Proofs
end