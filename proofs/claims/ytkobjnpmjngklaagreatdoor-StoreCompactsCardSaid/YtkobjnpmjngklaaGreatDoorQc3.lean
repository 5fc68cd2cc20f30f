/- Own texts, merged by a program: the engine that walks the code, and what the functions that the law reaches compute. -/
import Derived.Test.YtkobjnpmjngklaaGreatDoorQc2
import Derived.Lib.LaidTab
import Derived.Sort.Grow
import Derived.Deep.Draws
import Derived.ChangeSame
import Derived.ChangeShapes
import Derived.RowKit
import Derived.RangeFuncLeaves
import Derived.RangeFuncIn
import Derived.RangeFuncRecord
import Derived.Deep.Slices
import Derived.OpenShut
import Derived.Carry
import Derived.Shelf.Vars
import Derived.Laws.AppendOwn
import Derived.KernelRfl
import Derived.Shelf.Strings.Builder1
import Derived.Shelf.Strings.Builder2
import Derived.Shelf.Small.Bits
import Derived.Shelf.Strings.BuilderF
import Derived.Shelf.Strings.BuilderK
import Derived.Shelf.Strings.Builder2Cap
import Derived.Shelf.Strconv.Atoi
import Derived.Shelf.Strconv.Itoa0
import Derived.Shelf.Strconv.Itoa1
import Derived.Shelf.LaysM
import Derived.Shelf.Strconv.Itoa2
import Derived.Shelf.Strconv.Itoa3
import Derived.Shelf.Strconv.AtoiErrFast
import Derived.Shelf.Strconv.ParseIntEmpty
import Derived.Shelf.Strconv.AtoiFail
import Derived.Shelf.Strconv.Clone
import Derived.Shelf.Strconv.SyntaxError
import Derived.Shelf.LaysC
import Derived.Shelf.Strconv.ToError
import Derived.Shelf.Strconv.AtoiErr
import Derived.Shelf.Strconv.ErrVar
import Derived.Shelf.Strconv.Lower
import Derived.Shelf.Strconv.ParseUint10
import Derived.Shelf.Strconv.ParseUint10Empty
import Derived.Shelf.Strconv.ParseUint10Any
import Derived.Shelf.Strconv.ParseInt10
import Derived.Shelf.Strconv.AtoiLong
import Derived.Shelf.Strconv.AtoiInnerAll
import Derived.Shelf.Strconv.RangeError
import Derived.Shelf.Strconv.ToErrorRange
import Derived.Shelf.Strconv.AtoiAll
import Derived.Shelf.Strconv.ErrVarAll
import Derived.Shelf.Strconv.ParseUintEmpty
import Derived.Shelf.Strconv.ParseUint10b64
import Derived.Shelf.Strconv.ParseUint10b32
import Derived.Shelf.Strconv.ParseUint10b16
import Derived.Shelf.Strconv.ParseUint10b8
import Derived.Shelf.Strconv.ParseUint10At
import Derived.Shelf.Strconv.ParseInt10At64
import Derived.Shelf.Strconv.ParseInt10At32
import Derived.Shelf.Strconv.ParseInt10At16
import Derived.Shelf.Strconv.ParseInt10At8
import Derived.Shelf.Strconv.ParseInt10All
import Derived.Shelf.Strings.Search1
import Derived.Shelf.Strings.Search2
import Derived.Shelf.Strings.Cut
import Derived.Shelf.Strings.Shaped
import Derived.Shelf.Sort.Plain
import Derived.Shelf.Strings.Prefix
import Derived.Shelf.Bits.Mul64
import Derived.Shelf.Strings.Repeat
import Derived.Shelf.Strings.BuilderCap
import Derived.Shelf.Slices.Turned
import Derived.Ground.Names2Prog
import Derived.Shelf.Slices.Clone
import Derived.Shelf.Slices.CompactS
import Derived.Shelf.Slices.Cells
import Derived.Shelf.Slices.In.SortNone
import Derived.Test.YtkobjnpmjngklaaGreatDoorProg
import Derived.Lib.ItoaNum
section
set_option linter.unusedSimpArgs false
set_option maxHeartbeats 1000000
namespace GoV
open Go
def OpS (P : Mod) (oc : OC) (ds : List D) (dst : Dst) (r : List RO) (K : St → Prop) (s : St) : Prop :=
 OcWp P oc ds s.hp fun d hp => opsWp P r K ({ s with hp := hp }.put dst d)
def GdS (P : Mod) (b : D) (g : Opd) (want : Bool) (dst : Dst) (oc : OC) (args : List Opd) (r : List RO) (K : St → Prop) (s : St) : Prop :=
 match b with
 | .bool b => (b = want → opsWp P (⟨dst, oc, args, none⟩ :: r) K (s.setO g (.bool want))) ∧ (b = (!want) → opsWp P r K ((s.setO g (.bool (!want))).put dst .skip))
 | .skip => opsWp P r K (s.put dst .skip)
 | _ => False
def OpQ (P : Mod) (oc : OC) (ds : List D) (dst : Dst) (rq : List (RO × Bool)) (K : St → Prop) (s : St) : Prop :=
 zAf P oc ds s.hp fun d => opsQ P rq K (s.put dst d)
def GdQ (P : Mod) (qf : Bool) (b : D) (g : Opd) (want : Bool) (dst : Dst) (oc : OC) (args : List Opd) (rq : List (RO × Bool)) (K : St → Prop) (s : St) : Prop :=
 match b with
 | .bool b => (b = want → opsQ P ((⟨dst, oc, args, none⟩, qf) :: rq) K (s.setO g (.bool want))) ∧ (b = (!want) → opsQ P rq K ((s.setO g (.bool (!want))).put dst .skip))
 | .skip => opsQ P rq K (s.put dst .skip)
 | _ => False
def OpC (P : Mod) (oc : OC) (ds : List D) (dst : Dst) (rq : List (RO × Bool)) (K : St → Prop) (s : St) : Prop :=
 detWp P oc ds s.hp fun d hp => opsQ P rq K ({ s with hp := hp }.put dst d)
def LdS (P : Mod) (ag : Bool) (n : Nat) (B : Option Blk) (off : Nat) (dst : Dst) (r : List RO) (K : St → Prop) (s : St) : Prop :=
 ∃ B' cs, B = some B' ∧ B'.csq = some cs ∧ off + n ≤ cs.length ∧ opsWp P r K (s.put dst (if ag then .agg ((cs.drop off).take n) else cs.getD off .u0))
def LdQ (P : Mod) (ag : Bool) (n : Nat) (B : Option Blk) (off : Nat) (dst : Dst) (rq : List (RO × Bool)) (K : St → Prop) (s : St) : Prop :=
 ∃ B' cs, B = some B' ∧ B'.csq = some cs ∧ off + n ≤ cs.length ∧ opsQ P rq K (s.put dst (if ag then .agg ((cs.drop off).take n) else cs.getD off .u0))
def StS (P : Mod) (n : Nat) (B : Option Blk) (b off : Nat) (v : D) (dst : Dst) (r : List RO) (K : St → Prop) (s : St) : Prop :=
 ∃ B' cs, B = some B' ∧ B'.csq = some cs ∧ v.iV = true ∧ v.cells.length = n ∧ off + n ≤ cs.length ∧ opsWp P r K ({ s with hp := { s.hp with H := s.hp.H.set b (B'.putc (setL cs off v.cells)) } }.put dst .skip)
def BlS (P : Mod) (cs : Option (List D)) (dst : Dst) (r : List RO) (K : St → Prop) (s : St) : Prop := ∃ c, cs = some c ∧ opsWp P r K (s.put dst (.agg c))
def BlQ (P : Mod) (cs : Option (List D)) (dst : Dst) (rq : List (RO × Bool)) (K : St → Prop) (s : St) : Prop := ∃ c, cs = some c ∧ opsQ P rq K (s.put dst (.agg c))
def EqS (P : Mod) (neg : Bool) (b : Option Bool) (dst : Dst) (r : List RO) (K : St → Prop) (s : St) : Prop := ∃ c, b = some c ∧ opsWp P r K (s.put dst (.bool (if neg then !c else c)))
def EqQ (P : Mod) (neg : Bool) (b : Option Bool) (dst : Dst) (rq : List (RO × Bool)) (K : St → Prop) (s : St) : Prop := ∃ c, b = some c ∧ opsQ P rq K (s.put dst (.bool (if neg then !c else c)))
def LgS (P : Mod) (ag : Bool) (n : Nat) (V : Option Tv) (m off : Nat) (dst : Dst) (r : List RO) (K : St → Prop) (s : St) : Prop :=
 ∃ k cs, V = some (.chg k cs) ∧ cs.length = m * k ∧ off + n ≤ cs.length ∧ opsWp P r K (s.put dst (if ag then .agg ((cs.drop off).take n) else cs.getD off .u0))
def LgQ (P : Mod) (ag : Bool) (n : Nat) (V : Option Tv) (m off : Nat) (dst : Dst) (rq : List (RO × Bool)) (K : St → Prop) (s : St) : Prop :=
 ∃ k cs, V = some (.chg k cs) ∧ cs.length = m * k ∧ off + n ≤ cs.length ∧ opsQ P rq K (s.put dst (if ag then .agg ((cs.drop off).take n) else cs.getD off .u0))
def SgS (P : Mod) (n : Nat) (V : Option Tv) (t m off : Nat) (v : D) (dst : Dst) (r : List RO) (K : St → Prop) (s : St) : Prop :=
 ∃ k cs, V = some (.chg k cs) ∧ cs.length = m * k ∧ v.iV = true ∧ v.cells.length = n ∧ off + n ≤ cs.length ∧ opsWp P r K ({ s with hp := { s.hp with tk := s.hp.tk.set t (.chg k (setL cs off v.cells)) } }.put dst .skip)
def MmS (P : Mod) (k : IntKind) (b : Option Int) (dst : Dst) (r : List RO) (K : St → Prop) (s : St) : Prop := ∃ c, b = some c ∧ opsWp P r K (s.put dst (.int k c))
def MmQ (P : Mod) (k : IntKind) (b : Option Int) (dst : Dst) (rq : List (RO × Bool)) (K : St → Prop) (s : St) : Prop := ∃ c, b = some c ∧ opsQ P rq K (s.put dst (.int k c))
section
variable {P : Mod} {oc : OC} {args : List Opd} {dst : Dst} {r : List RO} {rq : List (RO × Bool)} {qf : Bool} {K : St → Prop} {s : St} {g : Opd} {want : Bool} {k k' : IntKind} {a b : Int} {x y : D} {ds : List D}
theorem e_nil : opsWp P [] K s = K s := propext Iff.rfl
theorem e_step : opsWp P (⟨dst, oc, args, none⟩ :: r) K s = OpS P oc (args.map s.get) dst r K s := propext Iff.rfl
theorem e_guard : opsWp P (⟨dst, oc, args, some (g, want)⟩ :: r) K s = GdS P (s.get g) g want dst oc args r K s := by
 simp only [opsWp, headWp, GdS]
 cases s.get g <;> simp only [opsWp, headWp, zD7]
theorem f_nil : opsQ P [] K s = K s := propext Iff.rfl
theorem f_step : opsQ P ((⟨dst, oc, args, none⟩, true) :: rq) K s = OpQ P (qOp oc) (args.map s.get) dst rq K s := propext Iff.rfl
theorem f_stepD : opsQ P ((⟨dst, oc, args, none⟩, false) :: rq) K s = if zAb (qOp oc) = true then OpC P (qOp oc) (args.map s.get) dst rq K s else OpS P (qOp oc) (args.map s.get) dst [] (opsQ P rq K) s := by
 split
 ·rfl
 ·rename_i hc
  show detWp _ _ _ _ _ = _
  rw [det_op (qOp_ne _) (by simpa using hc)]; rfl
theorem f_guard : opsQ P ((⟨dst, oc, args, some (g, want)⟩, qf) :: rq) K s = GdQ P qf (s.get g) g want dst oc args rq K s := by
 simp only [opsQ, headQ, GdQ]
 cases s.get g <;> simp only [opsQ, headQ, zD7]
theorem g_tt : GdS P (.bool true) g true dst oc args r K s = opsWp P (⟨dst, oc, args, none⟩ :: r) K (s.setO g (.bool true)) := by simp [GdS]
theorem g_tf : GdS P (.bool true) g false dst oc args r K s = opsWp P r K ((s.setO g (.bool true)).put dst .skip) := by simp [GdS]
theorem g_ft : GdS P (.bool false) g true dst oc args r K s = opsWp P r K ((s.setO g (.bool false)).put dst .skip) := by simp [GdS]
theorem g_ff : GdS P (.bool false) g false dst oc args r K s = opsWp P (⟨dst, oc, args, none⟩ :: r) K (s.setO g (.bool false)) := by simp [GdS]
theorem g_sk : GdS P .skip g want dst oc args r K s = opsWp P r K (s.put dst .skip) := propext Iff.rfl
theorem h_tt : GdQ P qf (.bool true) g true dst oc args rq K s = opsQ P ((⟨dst, oc, args, none⟩, qf) :: rq) K (s.setO g (.bool true)) := by simp [GdQ]
theorem h_tf : GdQ P qf (.bool true) g false dst oc args rq K s = opsQ P rq K ((s.setO g (.bool true)).put dst .skip) := by simp [GdQ]
theorem h_ft : GdQ P qf (.bool false) g true dst oc args rq K s = opsQ P rq K ((s.setO g (.bool false)).put dst .skip) := by simp [GdQ]
theorem h_ff : GdQ P qf (.bool false) g false dst oc args rq K s = opsQ P ((⟨dst, oc, args, none⟩, qf) :: rq) K (s.setO g (.bool false)) := by simp [GdQ]
theorem h_sk : GdQ P qf .skip g want dst oc args rq K s = opsQ P rq K (s.put dst .skip) := propext Iff.rfl
theorem gd_split {c : Bool} (h1 : c = true → GdS P (.bool true) g want dst oc args r K s) (h2 : c = false → GdS P (.bool false) g want dst oc args r K s) : GdS P (.bool c) g want dst oc args r K s := by
 cases c
 ·exact h2 rfl
 ·exact h1 rfl
theorem gq_split {c : Bool} (h1 : c = true → GdQ P qf (.bool true) g want dst oc args rq K s) (h2 : c = false → GdQ P qf (.bool false) g want dst oc args rq K s) : GdQ P qf (.bool c) g want dst oc args rq K s := by
 cases c
 ·exact h2 rfl
 ·exact h1 rfl
theorem o_mv : OpS P .mv [x] dst r K s = opsWp P r K (s.put dst x) := propext Iff.rfl
theorem p_mv : OpQ P .mv [x] dst rq K s = opsQ P rq K (s.put dst x) := by simp [OpQ, zAf, zAb, opWp]
theorem o_nckP {q : Program} {bk o : Nat} : OpS P (.nck q) [.ptr bk o] dst r K s = opsWp P r K (s.put dst (.ptr bk o)) := by simp [OpS, OcWp, zAb, isPan, opWp, nckIs]
theorem p_nckP {q : Program} {bk o : Nat} : OpQ P (.nck q) [.ptr bk o] dst rq K s = opsQ P rq K (s.put dst (.ptr bk o)) := by simp [OpQ, zAf, zAb, opWp, nckIs]
theorem o_nckI {q : Program} {cs : List D} : OpS P (.nck q) [.ip cs] dst r K s = opsWp P r K (s.put dst (.ip cs)) := by simp [OpS, OcWp, zAb, isPan, opWp, nckIs]
theorem p_nckI {q : Program} {cs : List D} : OpQ P (.nck q) [.ip cs] dst rq K s = opsQ P rq K (s.put dst (.ip cs)) := by simp [OpQ, zAf, zAb, opWp, nckIs]
theorem o_nckG {q : Program} {t m o : Nat} : OpS P (.nck q) [.gp t m o] dst r K s = opsWp P r K (s.put dst (.gp t m o)) := by simp [OpS, OcWp, zAb, isPan, opWp, nckIs]
theorem p_nckG {q : Program} {t m o : Nat} : OpQ P (.nck q) [.gp t m o] dst rq K s = opsQ P rq K (s.put dst (.gp t m o)) := by simp [OpQ, zAf, zAb, opWp, nckIs]
theorem o_nckM {q : Program} {name : String} {t : TypeId} {d : D} : OpS P (.nck q) [.fn (.method name) [.iface t d] []] dst r K s = (nckOk (zEt q t name) ∧ opsWp P r K (s.put dst (.fn (.method name) [.iface t d] []))) := by simp [OpS, OcWp, zAb, isPan, opWp, nckIs, nckFn_iff]
theorem p_nckM {q : Program} {name : String} {t : TypeId} {d : D} : OpQ P (.nck q) [.fn (.method name) [.iface t d] []] dst rq K s = (nckOk (zEt q t name) ∧ opsQ P rq K (s.put dst (.fn (.method name) [.iface t d] []))) := by simp [OpQ, zAf, zAb, opWp, nckIs, nckFn_iff]
theorem o_pickT : OpS P .pick [.bool true, x, y] dst r K s = opsWp P r K (s.put dst x) := by simp [OpS, OcWp, zAb, isPan, opWp]
theorem o_pickF : OpS P .pick [.bool false, x, y] dst r K s = opsWp P r K (s.put dst y) := by simp [OpS, OcWp, zAb, isPan, opWp]
theorem p_pickT : OpQ P .pick [.bool true, x, y] dst rq K s = opsQ P rq K (s.put dst x) := by simp [OpQ, zAf, zAb, opWp]
theorem p_pickF : OpQ P .pick [.bool false, x, y] dst rq K s = opsQ P rq K (s.put dst y) := by simp [OpQ, zAf, zAb, opWp]
theorem o_add : OpS P (.bin .add) [.int k a, .int k b] dst r K s = opsWp P r K (s.put dst (.int k (k.wrap (a + b)))) := by simp [OpS, OcWp, zAb, isPan, opWp, binWp]
theorem o_sub : OpS P (.bin .sub) [.int k a, .int k b] dst r K s = opsWp P r K (s.put dst (.int k (k.wrap (a - b)))) := by simp [OpS, OcWp, zAb, isPan, opWp, binWp]
theorem o_mul : OpS P (.bin .mul) [.int k a, .int k b] dst r K s = opsWp P r K (s.put dst (.int k (k.wrap (a * b)))) := by simp [OpS, OcWp, zAb, isPan, opWp, binWp]
theorem o_quo : OpS P (.bin .quo) [.int k a, .int k b] dst r K s = (b ≠ 0 ∧ opsWp P r K (s.put dst (.int k (k.wrap (a.tdiv b))))) := by simp [OpS, OcWp, zAb, isPan, opWp, binWp]
theorem o_rem : OpS P (.bin .rem) [.int k a, .int k b] dst r K s = (b ≠ 0 ∧ opsWp P r K (s.put dst (.int k (a.tmod b)))) := by simp [OpS, OcWp, zAb, isPan, opWp, binWp]
theorem o_and : OpS P (.bin .and) [.int k a, .int k b] dst r K s = opsWp P r K (s.put dst (.int k (bitsV .and k a b))) := by simp [OpS, OcWp, zAb, isPan, opWp, binWp]
theorem o_or : OpS P (.bin .or) [.int k a, .int k b] dst r K s = opsWp P r K (s.put dst (.int k (bitsV .or k a b))) := by simp [OpS, OcWp, zAb, isPan, opWp, binWp]
theorem o_xor : OpS P (.bin .xor) [.int k a, .int k b] dst r K s = opsWp P r K (s.put dst (.int k (bitsV .xor k a b))) := by simp [OpS, OcWp, zAb, isPan, opWp, binWp]
theorem o_shl : OpS P (.bin .shl) [.int k a, .int k' b] dst r K s = (0 ≤ b ∧ opsWp P r K (s.put dst (.int k (k.wrap (a * 2 ^ (min b.toNat k.bits)))))) := by simp [OpS, OcWp, zAb, isPan, opWp, binWp]
theorem o_shr : OpS P (.bin .shr) [.int k a, .int k' b] dst r K s = (0 ≤ b ∧ opsWp P r K (s.put dst (.int k (a.fdiv (2 ^ (min b.toNat k.bits)))))) := by simp [OpS, OcWp, zAb, isPan, opWp, binWp]
theorem o_eql : OpS P (.bin .eql) [.int k a, .int k b] dst r K s = opsWp P r K (s.put dst (.bool (a == b))) := by simp [OpS, OcWp, zAb, isPan, opWp, binWp]
theorem o_neq : OpS P (.bin .neq) [.int k a, .int k b] dst r K s = opsWp P r K (s.put dst (.bool (a != b))) := by simp [OpS, OcWp, zAb, isPan, opWp, binWp]
theorem o_lss : OpS P (.bin .lss) [.int k a, .int k b] dst r K s = opsWp P r K (s.put dst (.bool (decide (a < b)))) := by simp [OpS, OcWp, zAb, isPan, opWp, binWp]
theorem o_leq : OpS P (.bin .leq) [.int k a, .int k b] dst r K s = opsWp P r K (s.put dst (.bool (decide (a ≤ b)))) := by simp [OpS, OcWp, zAb, isPan, opWp, binWp]
theorem o_gtr : OpS P (.bin .gtr) [.int k a, .int k b] dst r K s = opsWp P r K (s.put dst (.bool (decide (b < a)))) := by simp [OpS, OcWp, zAb, isPan, opWp, binWp]
theorem o_geq : OpS P (.bin .geq) [.int k a, .int k b] dst r K s = opsWp P r K (s.put dst (.bool (decide (b ≤ a)))) := by simp [OpS, OcWp, zAb, isPan, opWp, binWp]
theorem p_add : OpQ P (.bin .add) [.int k a, .int k b] dst rq K s = opsQ P rq K (s.put dst (.int k (k.wrap (a + b)))) := by simp [OpQ, zAf, zAb, opWp, binWp]
theorem p_sub : OpQ P (.bin .sub) [.int k a, .int k b] dst rq K s = opsQ P rq K (s.put dst (.int k (k.wrap (a - b)))) := by simp [OpQ, zAf, zAb, opWp, binWp]
theorem p_mul : OpQ P (.bin .mul) [.int k a, .int k b] dst rq K s = opsQ P rq K (s.put dst (.int k (k.wrap (a * b)))) := by simp [OpQ, zAf, zAb, opWp, binWp]
theorem p_quo : OpQ P (.bin .quo) [.int k a, .int k b] dst rq K s = (b ≠ 0 ∧ opsQ P rq K (s.put dst (.int k (k.wrap (a.tdiv b))))) := by simp [OpQ, zAf, zAb, opWp, binWp]
theorem p_rem : OpQ P (.bin .rem) [.int k a, .int k b] dst rq K s = (b ≠ 0 ∧ opsQ P rq K (s.put dst (.int k (a.tmod b)))) := by simp [OpQ, zAf, zAb, opWp, binWp]
theorem p_eql : OpQ P (.bin .eql) [.int k a, .int k b] dst rq K s = opsQ P rq K (s.put dst (.bool (a == b))) := by simp [OpQ, zAf, zAb, opWp, binWp]
theorem p_neq : OpQ P (.bin .neq) [.int k a, .int k b] dst rq K s = opsQ P rq K (s.put dst (.bool (a != b))) := by simp [OpQ, zAf, zAb, opWp, binWp]
theorem p_lss : OpQ P (.bin .lss) [.int k a, .int k b] dst rq K s = opsQ P rq K (s.put dst (.bool (decide (a < b)))) := by simp [OpQ, zAf, zAb, opWp, binWp]
theorem p_leq : OpQ P (.bin .leq) [.int k a, .int k b] dst rq K s = opsQ P rq K (s.put dst (.bool (decide (a ≤ b)))) := by simp [OpQ, zAf, zAb, opWp, binWp]
theorem p_gtr : OpQ P (.bin .gtr) [.int k a, .int k b] dst rq K s = opsQ P rq K (s.put dst (.bool (decide (b < a)))) := by simp [OpQ, zAf, zAb, opWp, binWp]
theorem p_geq : OpQ P (.bin .geq) [.int k a, .int k b] dst rq K s = opsQ P rq K (s.put dst (.bool (decide (b ≤ a)))) := by simp [OpQ, zAf, zAb, opWp, binWp]
theorem o_cat {u v : List UInt8} : OpS P (.bin .add) [.str u, .str v] dst r K s = (u.length + v.length ≤ 4611686018427387904 ∧ opsWp P r K (s.put dst (.str (u ++ v)))) := by simp [OpS, OcWp, zAb, isPan, opWp, binWp]
theorem o_seq {u v : List UInt8} : OpS P (.bin .eql) [.str u, .str v] dst r K s = opsWp P r K (s.put dst (.bool (u == v))) := by simp [OpS, OcWp, zAb, isPan, opWp, binWp]
theorem o_sne {u v : List UInt8} : OpS P (.bin .neq) [.str u, .str v] dst r K s = opsWp P r K (s.put dst (.bool (!(u == v)))) := by simp [OpS, OcWp, zAb, isPan, opWp, binWp]
theorem o_slt {u v : List UInt8} : OpS P (.bin .lss) [.str u, .str v] dst r K s = opsWp P r K (s.put dst (.bool (Op.bytesLess u v))) := by simp [OpS, OcWp, zAb, isPan, opWp, binWp]
theorem p_cat {u v : List UInt8} : OpQ P (.bin .add) [.str u, .str v] dst rq K s = (u.length + v.length ≤ 4611686018427387904 ∧ opsQ P rq K (s.put dst (.str (u ++ v)))) := by simp [OpQ, zAf, zAb, opWp, binWp]
theorem p_seq {u v : List UInt8} : OpQ P (.bin .eql) [.str u, .str v] dst rq K s = opsQ P rq K (s.put dst (.bool (u == v))) := by simp [OpQ, zAf, zAb, opWp, binWp]
theorem p_sne {u v : List UInt8} : OpQ P (.bin .neq) [.str u, .str v] dst rq K s = opsQ P rq K (s.put dst (.bool (!(u == v)))) := by simp [OpQ, zAf, zAb, opWp, binWp]
theorem p_slt {u v : List UInt8} : OpQ P (.bin .lss) [.str u, .str v] dst rq K s = opsQ P rq K (s.put dst (.bool (Op.bytesLess u v))) := by simp [OpQ, zAf, zAb, opWp, binWp]
theorem o_beqF {u v : Bool} : OpS P (.eqB false) [.bool u, .bool v] dst r K s = opsWp P r K (s.put dst (.bool (u == v))) := by simp [OpS, OcWp, zAb, isPan, opWp]
theorem o_beqT {u v : Bool} : OpS P (.eqB true) [.bool u, .bool v] dst r K s = opsWp P r K (s.put dst (.bool (!(u == v)))) := by simp [OpS, OcWp, zAb, isPan, opWp]
theorem p_beqF {u v : Bool} : OpQ P (.eqB false) [.bool u, .bool v] dst rq K s = opsQ P rq K (s.put dst (.bool (u == v))) := by simp [OpQ, zAf, zAb, opWp]
theorem p_beqT {u v : Bool} : OpQ P (.eqB true) [.bool u, .bool v] dst rq K s = opsQ P rq K (s.put dst (.bool (!(u == v)))) := by simp [OpQ, zAf, zAb, opWp]
theorem o_eqA {neg : Bool} {ks : List EK} {u v : List D} : OpS P (.eqA neg ks) [.agg u, .agg v] dst r K s = EqS P neg (eqDs ks u v) dst r K s := by simp [OpS, OcWp, zAb, isPan, opWp, EqS]
theorem p_eqA {neg : Bool} {ks : List EK} {u v : List D} : OpQ P (.eqA neg ks) [.agg u, .agg v] dst rq K s = EqQ P neg (eqDs ks u v) dst rq K s := by simp [OpQ, zAf, zAb, opWp, EqQ]
theorem q_eqSF {c : Bool} : EqS P false (some c) dst r K s = opsWp P r K (s.put dst (.bool c)) := by simp [EqS]
theorem q_eqST {c : Bool} : EqS P true (some c) dst r K s = opsWp P r K (s.put dst (.bool (!c))) := by simp [EqS]
theorem q_eqQF {c : Bool} : EqQ P false (some c) dst rq K s = opsQ P rq K (s.put dst (.bool c)) := by simp [EqQ]
theorem q_eqQT {c : Bool} : EqQ P true (some c) dst rq K s = opsQ P rq K (s.put dst (.bool (!c))) := by simp [EqQ]
theorem o_neg : OpS P (.un .neg) [.int k a] dst r K s = opsWp P r K (s.put dst (.int k (k.wrap (0 - a)))) := by simp [OpS, OcWp, zAb, isPan, opWp, unWp]
theorem p_neg : OpQ P (.un .neg) [.int k a] dst rq K s = opsQ P rq K (s.put dst (.int k (k.wrap (0 - a)))) := by simp [OpQ, zAf, zAb, opWp, unWp]
theorem o_not {c : Bool} : OpS P (.un .not) [.bool c] dst r K s = opsWp P r K (s.put dst (.bool (!c))) := by simp [OpS, OcWp, zAb, isPan, opWp, unWp]
theorem p_not {c : Bool} : OpQ P (.un .not) [.bool c] dst rq K s = opsQ P rq K (s.put dst (.bool (!c))) := by simp [OpQ, zAf, zAb, opWp, unWp]
theorem o_cvI : OpS P (.cvI k) [.int k' a] dst r K s = opsWp P r K (s.put dst (.int k (k.wrap a))) := by simp [OpS, OcWp, zAb, isPan, opWp]
theorem p_cvI : OpQ P (.cvI k) [.int k' a] dst rq K s = opsQ P rq K (s.put dst (.int k (k.wrap a))) := by simp [OpQ, zAf, zAb, opWp]
theorem o_newb {z : List D} : OpS P (.newb z) [] dst r K s = opsWp P r K ({ s with hp := { s.hp with H := s.hp.H ++ [Blk.cells z] } }.put dst (.ptr s.hp.H.length 0)) := by simp [OpS, OcWp, zAb, isPan, opWp]
theorem o_newT {z : List D} {bty : TypeId} : OpS P (.newT bty z) [] dst r K s = opsWp P r K ({ s with hp := { s.hp with H := s.hp.H ++ [Blk.tcells bty z] } }.put dst (.ptr s.hp.H.length 0)) := by simp [OpS, OcWp, zAb, isPan, opWp]
theorem o_eqP {neg : Bool} : OpS P (.eqN neg .ptr) [x, .lit (.pointer none)] dst r K s = eqpWp neg x (fun d => opsWp P r K (s.put dst d)) := by simp [OpS, OcWp, zAb, isPan, opWp, eqkWp]
theorem o_eqI {neg : Bool} : OpS P (.eqN neg .ifc) [x, .lit .nilIface] dst r K s = eqiWp neg x (fun d => opsWp P r K (s.put dst d)) := by simp [OpS, OcWp, zAb, isPan, opWp, eqkWp]
theorem o_eqN {neg : Bool} : OpS P (.eqN neg .sl) [x, .lit (.slice none 0 0)] dst r K s = eqnWp neg x (fun d => opsWp P r K (s.put dst d)) := by simp [OpS, OcWp, zAb, isPan, opWp, eqkWp]
theorem n_nil {neg : Bool} {K : D → Prop} : eqnWp neg (.lit (.slice none 0 0)) K = K (.bool (!neg)) := rfl
theorem n_emp {neg : Bool} {own : Own} {K : D → Prop} : eqnWp neg (.slice [] own) K = ∀ b, K (.bool b) := rfl
theorem n_cons {neg : Bool} {y : D} {ys : List D} {own : Own} {K : D → Prop} : eqnWp neg (.slice (y :: ys) own) K = K (.bool neg) := rfl
theorem n_sl {neg : Bool} {b k off len cap : Nat} {K : D → Prop} : eqnWp neg (.sl b k off len cap) K = K (.bool neg) := rfl
theorem o_box : OpS P .box [x] dst r K s = (x.iV = true ∧ opsWp P r K ({ s with hp := { s.hp with H := s.hp.H ++ [Blk.cells x.cells] } }.put dst (.ptr s.hp.H.length 0))) := by simp [OpS, OcWp, zAb, isPan, opWp]
theorem o_bld {z : List D} {ps : List (Nat × Nat)} : OpS P (.bld z ps) ds dst r K s = BlS P (fillL z ps ds) dst r K s := by simp [OpS, OcWp, zAb, isPan, opWp, BlS]
theorem p_bld {z : List D} {ps : List (Nat × Nat)} : OpQ P (.bld z ps) ds dst rq K s = BlQ P (fillL z ps ds) dst rq K s := by simp [OpQ, zAf, zAb, opWp, BlQ]
theorem q_blS {c : List D} : BlS P (some c) dst r K s = opsWp P r K (s.put dst (.agg c)) := by simp [BlS]
theorem q_blQ {c : List D} : BlQ P (some c) dst rq K s = opsQ P rq K (s.put dst (.agg c)) := by simp [BlQ]
theorem o_ldp {ag : Bool} {n bk off : Nat} : OpS P (.ld ag n) [.ptr bk off] dst r K s = LdS P ag n (s.hp.H[bk]?) off dst r K s := by simp [OpS, OcWp, zAb, isPan, opWp, LdS]
theorem p_ldp {ag : Bool} {n bk off : Nat} : OpQ P (.ld ag n) [.ptr bk off] dst rq K s = LdQ P ag n (s.hp.H[bk]?) off dst rq K s := by simp [OpQ, zAf, zAb, opWp, LdQ]
theorem q_ldST {n off : Nat} {cs : List D} : LdS P true n (some (.cells cs)) off dst r K s = (off + n ≤ cs.length ∧ opsWp P r K (s.put dst (.agg ((cs.drop off).take n)))) := by simp [LdS, Blk.csq, Blk.putc]
theorem q_ldSTt {n off : Nat} {bty : TypeId} {cs : List D} : LdS P true n (some (.tcells bty cs)) off dst r K s = (off + n ≤ cs.length ∧ opsWp P r K (s.put dst (.agg ((cs.drop off).take n)))) := by simp [LdS, Blk.csq, Blk.putc]
theorem q_ldSF {n off : Nat} {cs : List D} : LdS P false n (some (.cells cs)) off dst r K s = (off + n ≤ cs.length ∧ opsWp P r K (s.put dst (cs.getD off .u0))) := by simp [LdS, Blk.csq, Blk.putc]
theorem q_ldSFt {n off : Nat} {bty : TypeId} {cs : List D} : LdS P false n (some (.tcells bty cs)) off dst r K s = (off + n ≤ cs.length ∧ opsWp P r K (s.put dst (cs.getD off .u0))) := by simp [LdS, Blk.csq, Blk.putc]
theorem q_ldQT {n off : Nat} {cs : List D} : LdQ P true n (some (.cells cs)) off dst rq K s = (off + n ≤ cs.length ∧ opsQ P rq K (s.put dst (.agg ((cs.drop off).take n)))) := by simp [LdQ, Blk.csq, Blk.putc]
theorem q_ldQTt {n off : Nat} {bty : TypeId} {cs : List D} : LdQ P true n (some (.tcells bty cs)) off dst rq K s = (off + n ≤ cs.length ∧ opsQ P rq K (s.put dst (.agg ((cs.drop off).take n)))) := by simp [LdQ, Blk.csq, Blk.putc]
theorem q_ldQF {n off : Nat} {cs : List D} : LdQ P false n (some (.cells cs)) off dst rq K s = (off + n ≤ cs.length ∧ opsQ P rq K (s.put dst (cs.getD off .u0))) := by simp [LdQ, Blk.csq, Blk.putc]
theorem q_ldQFt {n off : Nat} {bty : TypeId} {cs : List D} : LdQ P false n (some (.tcells bty cs)) off dst rq K s = (off + n ≤ cs.length ∧ opsQ P rq K (s.put dst (cs.getD off .u0))) := by simp [LdQ, Blk.csq, Blk.putc]
theorem o_ldiT {n : Nat} {cs : List D} : OpS P (.ld true n) [.ip cs] dst r K s = (0 < n ∧ n ≤ cs.length ∧ opsWp P r K (s.put dst (.agg (cs.take n)))) := by simp [OpS, OcWp, zAb, isPan, opWp]
theorem o_ldiF {n : Nat} {cs : List D} : OpS P (.ld false n) [.ip cs] dst r K s = (0 < n ∧ n ≤ cs.length ∧ opsWp P r K (s.put dst (cs.getD 0 .u0))) := by simp [OpS, OcWp, zAb, isPan, opWp]
theorem p_ldiT {n : Nat} {cs : List D} : OpQ P (.ld true n) [.ip cs] dst rq K s = (0 < n ∧ n ≤ cs.length ∧ opsQ P rq K (s.put dst (.agg (cs.take n)))) := by simp [OpQ, zAf, zAb, opWp]
theorem p_ldiF {n : Nat} {cs : List D} : OpQ P (.ld false n) [.ip cs] dst rq K s = (0 < n ∧ n ≤ cs.length ∧ opsQ P rq K (s.put dst (cs.getD 0 .u0))) := by simp [OpQ, zAf, zAb, opWp]
theorem o_stp {n bk off : Nat} : OpS P (.st n) [.ptr bk off, x] dst r K s = StS P n (s.hp.H[bk]?) bk off x dst r K s := by simp [OpS, OcWp, zAb, isPan, opWp, StS]
theorem q_stS {n bk off : Nat} {cs : List D} : StS P n (some (.cells cs)) bk off x dst r K s = (x.iV = true ∧ x.cells.length = n ∧ off + n ≤ cs.length ∧ opsWp P r K ({ s with hp := { s.hp with H := s.hp.H.set bk (.cells (setL cs off x.cells)) } }.put dst .skip)) := by simp [StS, Blk.csq, Blk.putc]
theorem q_stSt {n bk off : Nat} {bty : TypeId} {cs : List D} : StS P n (some (.tcells bty cs)) bk off x dst r K s = (x.iV = true ∧ x.cells.length = n ∧ off + n ≤ cs.length ∧ opsWp P r K ({ s with hp := { s.hp with H := s.hp.H.set bk (.tcells bty (setL cs off x.cells)) } }.put dst .skip)) := by simp [StS, Blk.csq, Blk.putc]
theorem o_fldp {off bk o : Nat} : OpS P (.fld off) [.ptr bk o] dst r K s = opsWp P r K (s.put dst (.ptr bk (o + off))) := by simp [OpS, OcWp, zAb, isPan, opWp]
theorem p_fldp {off bk o : Nat} : OpQ P (.fld off) [.ptr bk o] dst rq K s = opsQ P rq K (s.put dst (.ptr bk (o + off))) := by simp [OpQ, zAf, zAb, opWp]
theorem o_fldi {off : Nat} {cs : List D} : OpS P (.fld off) [.ip cs] dst r K s = opsWp P r K (s.put dst (.ip (cs.drop off))) := by simp [OpS, OcWp, zAb, isPan, opWp]
theorem p_fldi {off : Nat} {cs : List D} : OpQ P (.fld off) [.ip cs] dst rq K s = opsQ P rq K (s.put dst (.ip (cs.drop off))) := by simp [OpQ, zAf, zAb, opWp]
theorem o_fvT {off n : Nat} {cs : List D} : OpS P (.fv true off n) [.agg cs] dst r K s = (off + n ≤ cs.length ∧ opsWp P r K (s.put dst (.agg ((cs.drop off).take n)))) := by simp [OpS, OcWp, zAb, isPan, opWp]
theorem o_fvF {off n : Nat} {cs : List D} : OpS P (.fv false off n) [.agg cs] dst r K s = (off + n ≤ cs.length ∧ opsWp P r K (s.put dst (cs.getD off .u0))) := by simp [OpS, OcWp, zAb, isPan, opWp]
theorem p_fvT {off n : Nat} {cs : List D} : OpQ P (.fv true off n) [.agg cs] dst rq K s = (off + n ≤ cs.length ∧ opsQ P rq K (s.put dst (.agg ((cs.drop off).take n)))) := by simp [OpQ, zAf, zAb, opWp]
theorem p_fvF {off n : Nat} {cs : List D} : OpQ P (.fv false off n) [.agg cs] dst rq K s = (off + n ≤ cs.length ∧ opsQ P rq K (s.put dst (cs.getD off .u0))) := by simp [OpQ, zAf, zAb, opWp]
theorem o_ixaA {len n bk o : Nat} : OpS P (.ixaA len n) [.ptr bk o, .int k a] dst r K s = (0 ≤ a ∧ a < len ∧ opsWp P r K (s.put dst (.ptr bk (o + a.toNat * n)))) := by simp [OpS, OcWp, zAb, isPan, opWp]
theorem p_ixaA {len n bk o : Nat} : OpQ P (.ixaA len n) [.ptr bk o, .int k a] dst rq K s = (0 ≤ a ∧ a < len ∧ opsQ P rq K (s.put dst (.ptr bk (o + a.toNat * n)))) := by simp [OpQ, zAf, zAb, opWp]
theorem o_ixaS {n : Nat} {es : List D} {own : Own} : OpS P (.ixaS n) [.slice es own, .int k a] dst r K s = (0 ≤ a ∧ a < es.length ∧ (es.getD a.toNat .u0).iV = true ∧ (es.getD a.toNat .u0).cells.length = n ∧ opsWp P r K (s.put dst (.ip (es.getD a.toNat .u0).cells))) := by simp [OpS, OcWp, zAb, isPan, opWp]
theorem p_ixaS {n : Nat} {es : List D} {own : Own} : OpQ P (.ixaS n) [.slice es own, .int k a] dst rq K s = (0 ≤ a ∧ a < es.length ∧ (es.getD a.toNat .u0).iV = true ∧ (es.getD a.toNat .u0).cells.length = n ∧ opsQ P rq K (s.put dst (.ip (es.getD a.toNat .u0).cells))) := by simp [OpQ, zAf, zAb, opWp]
theorem o_ixvS {u : List UInt8} : OpS P .ixvS [.str u, .int k a] dst r K s = (0 ≤ a ∧ a < u.length ∧ opsWp P r K (s.put dst (.int .u8 (u.getD a.toNat 0).toNat))) := by simp [OpS, OcWp, zAb, isPan, opWp]
theorem p_ixvS {u : List UInt8} : OpQ P .ixvS [.str u, .int k a] dst rq K s = (0 ≤ a ∧ a < u.length ∧ opsQ P rq K (s.put dst (.int .u8 (u.getD a.toNat 0).toNat))) := by simp [OpQ, zAf, zAb, opWp]
theorem o_slTF {u : List UInt8} : OpS P (.slcS true false) [.str u, .int k a] dst r K s = (0 ≤ a ∧ a ≤ u.length ∧ opsWp P r K (s.put dst (.str (u.drop a.toNat)))) := by simp [OpS, OcWp, zAb, isPan, opWp]
theorem p_slTF {u : List UInt8} : OpQ P (.slcS true false) [.str u, .int k a] dst rq K s = (0 ≤ a ∧ a ≤ u.length ∧ opsQ P rq K (s.put dst (.str (u.drop a.toNat)))) := by simp [OpQ, zAf, zAb, opWp]
theorem o_slFT {u : List UInt8} : OpS P (.slcS false true) [.str u, .int k a] dst r K s = (0 ≤ a ∧ a ≤ u.length ∧ opsWp P r K (s.put dst (.str (u.take a.toNat)))) := by simp [OpS, OcWp, zAb, isPan, opWp]
theorem p_slFT {u : List UInt8} : OpQ P (.slcS false true) [.str u, .int k a] dst rq K s = (0 ≤ a ∧ a ≤ u.length ∧ opsQ P rq K (s.put dst (.str (u.take a.toNat)))) := by simp [OpQ, zAf, zAb, opWp]
theorem o_slTT {u : List UInt8} : OpS P (.slcS true true) [.str u, .int k a, .int k' b] dst r K s = (0 ≤ a ∧ a ≤ b ∧ b ≤ u.length ∧ opsWp P r K (s.put dst (.str ((u.take b.toNat).drop a.toNat)))) := by simp [OpS, OcWp, zAb, isPan, opWp]
theorem p_slTT {u : List UInt8} : OpQ P (.slcS true true) [.str u, .int k a, .int k' b] dst rq K s = (0 ≤ a ∧ a ≤ b ∧ b ≤ u.length ∧ opsQ P rq K (s.put dst (.str ((u.take b.toNat).drop a.toNat)))) := by simp [OpQ, zAf, zAb, opWp]
theorem o_ext {i : Nat} : OpS P (.ext i) [.tup ds] dst r K s = (i < ds.length ∧ opsWp P r K (s.put dst (ds.getD i .u0))) := by simp [OpS, OcWp, zAb, isPan, opWp]
theorem p_ext {i : Nat} : OpQ P (.ext i) [.tup ds] dst rq K s = (i < ds.length ∧ opsQ P rq K (s.put dst (ds.getD i .u0))) := by simp [OpQ, zAf, zAb, opWp]
theorem o_lenS {u : List UInt8} : OpS P .lenS [.str u] dst r K s = opsWp P r K (s.put dst (.int .i64 u.length)) := by simp [OpS, OcWp, zAb, isPan, opWp]
theorem p_lenS {u : List UInt8} : OpQ P .lenS [.str u] dst rq K s = opsQ P rq K (s.put dst (.int .i64 u.length)) := by simp [OpQ, zAf, zAb, opWp]
theorem o_lenL {es : List D} {own : Own} : OpS P .lenL [.slice es own] dst r K s = opsWp P r K (s.put dst (.int .i64 es.length)) := by simp [OpS, OcWp, zAb, isPan, opWp]
theorem p_lenL {es : List D} {own : Own} : OpQ P .lenL [.slice es own] dst rq K s = opsQ P rq K (s.put dst (.int .i64 es.length)) := by simp [OpQ, zAf, zAb, opWp]
theorem o_lenN : OpS P .lenL [.lit (.slice none 0 0)] dst r K s = opsWp P r K (s.put dst (.int .i64 0)) := by simp [OpS, OcWp, zAb, isPan, opWp]
theorem p_lenN : OpQ P .lenL [.lit (.slice none 0 0)] dst rq K s = opsQ P rq K (s.put dst (.int .i64 0)) := by simp [OpQ, zAf, zAb, opWp]
theorem o_min : OpS P .minI (.int k a :: ds) dst r K s = MmS P k (foldI (fun a b => if b < a then b else a) k a ds) dst r K s := by simp [OpS, OcWp, zAb, isPan, opWp, mmWp, MmS]
theorem p_min : OpQ P .minI (.int k a :: ds) dst rq K s = MmQ P k (foldI (fun a b => if b < a then b else a) k a ds) dst rq K s := by simp [OpQ, zAf, zAb, opWp, mmWp, MmQ]
theorem o_minS {a b : List UInt8} : OpS P .minI [.str a, .str b] dst r K s = opsWp P r K (s.put dst (.str (if Op.bytesLess a b || a == b then a else b))) := by simp [OpS, OcWp, zAb, isPan, opWp, mmWp]
theorem o_maxS {a b : List UInt8} : OpS P .maxI [.str a, .str b] dst r K s = opsWp P r K (s.put dst (.str (if Op.bytesLess a b then b else a))) := by simp [OpS, OcWp, zAb, isPan, opWp, mmWp]
attribute [go_sem] o_minS o_maxS
theorem o_max : OpS P .maxI (.int k a :: ds) dst r K s = MmS P k (foldI (fun a b => if b > a then b else a) k a ds) dst r K s := by simp [OpS, OcWp, zAb, isPan, opWp, mmWp, MmS]
theorem p_max : OpQ P .maxI (.int k a :: ds) dst rq K s = MmQ P k (foldI (fun a b => if b > a then b else a) k a ds) dst rq K s := by simp [OpQ, zAf, zAb, opWp, mmWp, MmQ]
theorem q_mmS : MmS P k (some a) dst r K s = opsWp P r K (s.put dst (.int k a)) := by simp [MmS]
theorem q_mmQ : MmQ P k (some a) dst rq K s = opsQ P rq K (s.put dst (.int k a)) := by simp [MmQ]
theorem o_mkI {t : Nat} : OpS P (.mkI t) [x] dst r K s = opsWp P r K (s.put dst (.iface t x)) := by simp [OpS, OcWp, zAb, isPan, opWp]
theorem p_mkI {t : Nat} : OpQ P (.mkI t) [x] dst rq K s = opsQ P rq K (s.put dst (.iface t x)) := by simp [OpQ, zAf, zAb, opWp]
theorem o_mkF {f : Fn} {n : Nat} : OpS P (.mkF f n) ds dst r K s = opsWp P r K (s.put dst (.fn f (ds.take n) (ds.drop n))) := by simp [OpS, OcWp, zAb, isPan, opWp]
theorem p_mkF {f : Fn} {n : Nat} : OpQ P (.mkF f n) ds dst rq K s = opsQ P rq K (s.put dst (.fn f (ds.take n) (ds.drop n))) := by simp [OpQ, zAf, zAb, opWp]
theorem o_lenM {bk n off len cap : Nat} : OpS P .lenL [.sl bk n off len cap] dst r K s = opsWp P r K (s.put dst (.int .i64 len)) := by simp [OpS, OcWp, zAb, isPan, opWp]
theorem p_lenM {bk n off len cap : Nat} : OpQ P .lenL [.sl bk n off len cap] dst rq K s = opsQ P rq K (s.put dst (.int .i64 len)) := by simp [OpQ, zAf, zAb, opWp]
theorem o_lenG {t n : Nat} : OpS P .lenL [.gs t n] dst r K s = opsWp P r K (s.put dst (.int .i64 n)) := by simp [OpS, OcWp, zAb, isPan, opWp]
theorem p_lenG {t n : Nat} : OpQ P .lenL [.gs t n] dst rq K s = opsQ P rq K (s.put dst (.int .i64 n)) := by simp [OpQ, zAf, zAb, opWp]
theorem o_ixaM {n bk n' off len cap : Nat} : OpS P (.ixaS n) [.sl bk n' off len cap, .int k a] dst r K s = (0 ≤ a ∧ a < len ∧ len ≤ cap ∧ n' = n ∧ opsWp P r K (s.put dst (.ptr bk (off + a.toNat * n)))) := by simp [OpS, OcWp, zAb, isPan, opWp]
theorem p_ixaM {n bk n' off len cap : Nat} : OpQ P (.ixaS n) [.sl bk n' off len cap, .int k a] dst rq K s = (0 ≤ a ∧ a < len ∧ len ≤ cap ∧ n' = n ∧ opsQ P rq K (s.put dst (.ptr bk (off + a.toNat * n)))) := by simp [OpQ, zAf, zAb, opWp]
theorem o_ixaG {n t m : Nat} : OpS P (.ixaS n) [.gs t m, .int k a] dst r K s = (0 ≤ a ∧ a < m ∧ opsWp P r K (s.put dst (.gp t m (a.toNat * n)))) := by simp [OpS, OcWp, zAb, isPan, opWp]
theorem p_ixaG {n t m : Nat} : OpQ P (.ixaS n) [.gs t m, .int k a] dst rq K s = (0 ≤ a ∧ a < m ∧ opsQ P rq K (s.put dst (.gp t m (a.toNat * n)))) := by simp [OpQ, zAf, zAb, opWp]
theorem o_fldg {off t m o : Nat} : OpS P (.fld off) [.gp t m o] dst r K s = opsWp P r K (s.put dst (.gp t m (o + off))) := by simp [OpS, OcWp, zAb, isPan, opWp]
theorem p_fldg {off t m o : Nat} : OpQ P (.fld off) [.gp t m o] dst rq K s = opsQ P rq K (s.put dst (.gp t m (o + off))) := by simp [OpQ, zAf, zAb, opWp]
theorem o_rng {u : List UInt8} : OpS P .rngS [.str u] dst r K s = opsWp P r K ({ s with hp := { s.hp with H := s.hp.H ++ [Blk.siter u 0] } }.put dst (.ptr s.hp.H.length 0)) := by simp [OpS, OcWp, zAb, isPan, opWp]
theorem o_ldg {ag : Bool} {n t m off : Nat} : OpS P (.ld ag n) [.gp t m off] dst r K s = LgS P ag n (s.hp.tk[t]?) m off dst r K s := by simp [OpS, OcWp, zAb, isPan, opWp, LgS]
theorem p_ldg {ag : Bool} {n t m off : Nat} : OpQ P (.ld ag n) [.gp t m off] dst rq K s = LgQ P ag n (s.hp.tk[t]?) m off dst rq K s := by simp [OpQ, zAf, zAb, opWp, LgQ]
theorem q_lgST {n k' m off : Nat} {cs : List D} : LgS P true n (some (.chg k' cs)) m off dst r K s = (cs.length = m * k' ∧ off + n ≤ cs.length ∧ opsWp P r K (s.put dst (.agg ((cs.drop off).take n)))) := by
 simp only [LgS, Option.some.injEq, Tv.chg.injEq, if_true]
 exact propext ⟨fun ⟨_, _, ⟨h1, h2⟩, h3, h4, h5⟩ => by subst h1; subst h2; exact ⟨h3, h4, h5⟩, fun ⟨h3, h4, h5⟩ => ⟨_, _, ⟨rfl, rfl⟩, h3, h4, h5⟩⟩
theorem q_lgSF {n k' m off : Nat} {cs : List D} : LgS P false n (some (.chg k' cs)) m off dst r K s = (cs.length = m * k' ∧ off + n ≤ cs.length ∧ opsWp P r K (s.put dst (cs.getD off .u0))) := by
 simp only [LgS, Option.some.injEq, Tv.chg.injEq, Bool.false_eq_true, if_false]
 exact propext ⟨fun ⟨_, _, ⟨h1, h2⟩, h3, h4, h5⟩ => by subst h1; subst h2; exact ⟨h3, h4, h5⟩, fun ⟨h3, h4, h5⟩ => ⟨_, _, ⟨rfl, rfl⟩, h3, h4, h5⟩⟩
theorem q_lgQT {n k' m off : Nat} {cs : List D} : LgQ P true n (some (.chg k' cs)) m off dst rq K s = (cs.length = m * k' ∧ off + n ≤ cs.length ∧ opsQ P rq K (s.put dst (.agg ((cs.drop off).take n)))) := by
 simp only [LgQ, Option.some.injEq, Tv.chg.injEq, if_true]
 exact propext ⟨fun ⟨_, _, ⟨h1, h2⟩, h3, h4, h5⟩ => by subst h1; subst h2; exact ⟨h3, h4, h5⟩, fun ⟨h3, h4, h5⟩ => ⟨_, _, ⟨rfl, rfl⟩, h3, h4, h5⟩⟩
theorem q_lgQF {n k' m off : Nat} {cs : List D} : LgQ P false n (some (.chg k' cs)) m off dst rq K s = (cs.length = m * k' ∧ off + n ≤ cs.length ∧ opsQ P rq K (s.put dst (cs.getD off .u0))) := by
 simp only [LgQ, Option.some.injEq, Tv.chg.injEq, Bool.false_eq_true, if_false]
 exact propext ⟨fun ⟨_, _, ⟨h1, h2⟩, h3, h4, h5⟩ => by subst h1; subst h2; exact ⟨h3, h4, h5⟩, fun ⟨h3, h4, h5⟩ => ⟨_, _, ⟨rfl, rfl⟩, h3, h4, h5⟩⟩
theorem o_stg {n t m off : Nat} : OpS P (.st n) [.gp t m off, x] dst r K s = SgS P n (s.hp.tk[t]?) t m off x dst r K s := by simp [OpS, OcWp, zAb, isPan, opWp, SgS]
theorem q_sgS {n t m off k' : Nat} {cs : List D} : SgS P n (some (.chg k' cs)) t m off x dst r K s = (cs.length = m * k' ∧ x.iV = true ∧ x.cells.length = n ∧ off + n ≤ cs.length ∧ opsWp P r K ({ s with hp := { s.hp with tk := s.hp.tk.set t (.chg k' (setL cs off x.cells)) } }.put dst .skip)) := by
 simp only [SgS, Option.some.injEq, Tv.chg.injEq]
 exact propext ⟨fun ⟨_, _, ⟨h1, h2⟩, h3⟩ => by subst h1; subst h2; exact h3, fun h3 => ⟨_, _, ⟨rfl, rfl⟩, h3⟩⟩
section
variable {es xs : List D} {n bytes : Nat} {ety : TypeId}
theorem s_bsl (he : zAh n ds = true) (hl : ds.length * n ≤ 16777216) (hc : D.cL ds = true) (h : opsWp P r K (s.put dst (.slice (D.erL ds) .full))) : OpS P (.bsl n) ds dst r K s := by
 simp only [OpS, OcWp, zAb, isPan, Bool.false_eq_true, if_false, opWp]; exact ⟨he, hl, .inl ⟨hc, h⟩⟩
theorem t_bsl (he : zAh n ds = true) (hl : ds.length * n ≤ 16777216) (hc : D.cL ds = true) (h : opsQ P rq K (s.put dst (.slice (D.erL ds) .full))) : OpQ P (.bsl n) ds dst rq K s := by
 simp only [OpQ, zAf, zAb, Bool.false_eq_true, if_false, opWp]; exact ⟨he, hl, .inl ⟨hc, by trivial, h⟩⟩
theorem s_mks {z : List D} (h0 : 0 ≤ a) (h1 : a ≤ b) (h2 : zB3 b.toNat bytes) (h : opsWp P r K ({ s with hp := { s.hp with H := s.hp.H ++ [Blk.cells (zeros z b.toNat)] } }.put dst (.sl s.hp.H.length n 0 a.toNat b.toNat))) : OpS P (.mks n bytes z) [.int k a, .int k' b] dst r K s := by
 simp only [OpS, OcWp, zAb, isPan, Bool.false_eq_true, if_false, opWp]; exact ⟨h0, h1, h2, .inl h⟩
theorem s_appT {t : Nat} (he : zA4 s.hp n x = some es) (hK : zAh n es = true) (hc : D.cL es = true) (hr : zB3 (xs.length + es.length) bytes) (hV : s.hp.tk[t]? = some (.per n xs.length))
 (h : opsWp P r K ({ s with hp := { s.hp with tk := s.hp.tk.set t (.per n (xs.length + es.length)) } }.put dst (.slice (xs ++ D.erL es) (.tok t)))) : OpS P (.app n bytes ety) [.slice xs (.tok t), x] dst r K s := by
 simp only [OpS, OcWp, zAb, isPan, Bool.false_eq_true, if_false, opWp]; exact ⟨es, he, hK, hr, hc, hV, h⟩
theorem s_appG {t m : Nat} {cs : List D} (he : zA4 s.hp n x = some es) (hK : zAh n es = true) (hr : zB3 (m + es.length) bytes) (hV : s.hp.tk[t]? = some (.chg n cs)) (hl : cs.length = m * n)
 (h : opsWp P r K ({ s with hp := { s.hp with tk := s.hp.tk.set t (.chg n (cs ++ flatD es)) } }.put dst (.gs t (m + es.length)))) : OpS P (.app n bytes ety) [.gs t m, x] dst r K s := by
 simp only [OpS, OcWp, zAb, isPan, Bool.false_eq_true, if_false, opWp]; exact ⟨es, he, hK, hr, .inl ⟨cs, hV, hl, h⟩⟩
theorem s_appB {t m : Nat} {bs u : List UInt8} (he : zA4 s.hp n x = some es) (hu : zDn es = some u) (hK : zAh n es = true) (hn : n = 1) (hr : zB3 (m + es.length) bytes) (hV : s.hp.tk[t]? = some (.byt ety bs)) (hl : bs.length = m)
 (h : opsWp P r K ({ s with hp := { s.hp with tk := s.hp.tk.set t (.byt ety (bs ++ u)) } }.put dst (.gs t (m + es.length)))) : OpS P (.app n bytes ety) [.gs t m, x] dst r K s := by
 simp only [OpS, OcWp, zAb, isPan, Bool.false_eq_true, if_false, opWp]; exact ⟨es, he, hK, hr, .inr ⟨bs, u, hn, hV, hl, hu, h⟩⟩
theorem s_appS {t m : Nat} {bs u : List UInt8} (hr : zB3 (m + u.length) bytes) (hV : s.hp.tk[t]? = some (.byt ety bs)) (hl : bs.length = m)
 (h : opsWp P r K ({ s with hp := { s.hp with tk := s.hp.tk.set t (.byt ety (bs ++ u)) } }.put dst (.gs t (m + u.length)))) : OpS P (.app 1 bytes ety) [.gs t m, .str u] dst r K s := by
 have hb : ∀ u : List UInt8, zDn (u.map fun b => D.int .u8 b.toNat) = some u := by
  intro u
  induction u with
  | nil => rfl
  | cons b u ih =>
    have : b.toNat < 256 := UInt8.toNat_lt b
    simp only [List.map_cons, zDn, ih]
    rw [if_pos ⟨by omega, by omega⟩]
    congr 2
    apply UInt8.toNat_inj.1
    rw [UInt8.toNat_ofNat']; simp
 have hk : ∀ u : List UInt8, zAh 1 (u.map fun b => D.int .u8 b.toNat) = true := by
  intro u
  induction u with
  | nil => rfl
  | cons b u ih => simp [zAh, D.iV, D.cells, ih]
 refine s_appB (es := u.map fun b => D.int .u8 b.toNat) rfl (hb u) (hk u) rfl (by simpa using hr) hV hl ?_
 simpa using h
theorem s_app0T (he : zA4 s.hp n x = some es) (hK : zAh n es = true) (hc : D.cL es = true) (hr : zB3 es.length bytes) (h : opsWp P r K ({ s with hp := { s.hp with tk := s.hp.tk ++ [Tv.per n es.length] } }.put dst (.slice (D.erL es) (.tok s.hp.tk.length)))) : OpS P (.app n bytes ety) [.lit (.slice none 0 0), x] dst r K s := by
 simp only [OpS, OcWp, zAb, isPan, Bool.false_eq_true, if_false, opWp]; exact ⟨es, he, hK, hr, .inl ⟨hc, .inr h⟩⟩
theorem s_appF (he : zA4 s.hp n x = some es) (hK : zAh n es = true) (hc : D.cL es = true) (hr : zB3 (xs.length + es.length) bytes) (hx : zAh n xs = true) (hn : 0 < n) (h : opsWp P r K (s.put dst (.slice (xs ++ D.erL es) .no))) : OpS P (.app n bytes ety) [.slice xs .full, x] dst r K s := by
 simp only [OpS, OcWp, zAb, isPan, Bool.false_eq_true, if_false, opWp]; exact ⟨es, he, hK, hr, .inl ⟨hc, hx, hn, .inl h⟩⟩
theorem s_appFT (he : zA4 s.hp n x = some es) (hK : zAh n es = true) (hc : D.cL es = true) (hr : zB3 (xs.length + es.length) bytes) (hx : zAh n xs = true) (hn : 0 < n) (h : opsWp P r K ({ s with hp := { s.hp with tk := s.hp.tk ++ [Tv.per n (xs.length + es.length)] } }.put dst (.slice (xs ++ D.erL es) (.tok s.hp.tk.length)))) : OpS P (.app n bytes ety) [.slice xs .full, x] dst r K s := by
 simp only [OpS, OcWp, zAb, isPan, Bool.false_eq_true, if_false, opWp]; exact ⟨es, he, hK, hr, .inl ⟨hc, hx, hn, .inr h⟩⟩
theorem s_slTF {own : Own} (h0 : 0 ≤ a) (h1 : a ≤ xs.length) (hx : zAh n xs = true) (h : opsWp P r K (s.put dst (.slice (xs.drop a.toNat) .no))) : OpS P (.slcL n true false) [.slice xs own, .int k a] dst r K s := by
 simp only [OpS, OcWp, zAb, isPan, Bool.false_eq_true, if_false, opWp]
 exact ⟨a, xs.length, ⟨rfl, rfl⟩, h0, h1, by simp [dlen], hx, by simpa using h⟩
theorem s_slTT {own : Own} (h0 : 0 ≤ a) (h1 : a ≤ b) (h2 : b ≤ xs.length) (hx : zAh n xs = true) (h : opsWp P r K (s.put dst (.slice ((xs.take b.toNat).drop a.toNat) .no))) : OpS P (.slcL n true true) [.slice xs own, .int k a, .int k' b] dst r K s := by
 simp only [OpS, OcWp, zAb, isPan, Bool.false_eq_true, if_false, opWp]
 exact ⟨a, b, ⟨rfl, rfl⟩, h0, h1, by simpa [dlen] using h2, hx, h⟩
theorem s_sl3 {own : Own} {k1 k2 k3 : IntKind} {c : Int} (h0 : 0 ≤ a) (h1 : a ≤ b) (h2 : b ≤ c) (h3 : c ≤ xs.length) (hx : zAh n xs = true) (h : opsWp P r K (s.put dst (.slice ((xs.take b.toNat).drop a.toNat) .no))) : OpS P (.slc3 n) [.slice xs own, .int k1 a, .int k2 b, .int k3 c] dst r K s := by
 simp only [OpS, OcWp, zAb, isPan, Bool.false_eq_true, if_false, opWp]; exact ⟨a, b, c, ⟨rfl, rfl, rfl⟩, h0, h1, h2, by simpa [dlen] using h3, hx, h⟩
theorem t_slTF {own : Own} (h0 : 0 ≤ a) (h1 : a ≤ xs.length) (hx : zAh n xs = true) (h : opsQ P rq K (s.put dst (.slice (xs.drop a.toNat) .no))) : OpQ P (.slcL n true false) [.slice xs own, .int k a] dst rq K s := by
 simp only [OpQ, zAf, zAb, Bool.false_eq_true, if_false, opWp]
 exact ⟨a, xs.length, ⟨rfl, rfl⟩, h0, h1, by simp [dlen], hx, by trivial, by simpa using h⟩
theorem s_smTT {bk off len cap : Nat} (h0 : 0 ≤ a) (h1 : a ≤ b) (h2 : b ≤ len) (hc : len ≤ cap) (h : opsWp P r K (s.put dst (.sl bk n (off + a.toNat * n) (b.toNat - a.toNat) (cap - a.toNat)))) : OpS P (.slcL n true true) [.sl bk n off len cap, .int k a, .int k' b] dst r K s := by
 simp only [OpS, OcWp, zAb, isPan, Bool.false_eq_true, if_false, opWp]
 exact ⟨a, b, ⟨rfl, rfl⟩, h0, h1, by simpa [dlen] using h2, trivial, hc, h⟩
theorem s_saFF {m bk off : Nat} (h : opsWp P r K (s.put dst (.sl bk n off m m))) : OpS P (.slcA m n false false) [.ptr bk off] dst r K s := by
 simp only [OpS, OcWp, zAb, isPan, Bool.false_eq_true, if_false, opWp]
 exact ⟨0, m, ⟨rfl, rfl⟩, by omega, by omega, by omega, by simpa using h⟩
theorem s_b2s {u : List UInt8} (hn : isStr x = false) (he : zA4 s.hp 1 x = some es) (hb : bytesOf es = some u) (h : opsWp P r K (s.put dst (.str u))) : OpS P .b2s [x] dst r K s := by
 simp only [OpS, OcWp, zAb, isPan, Bool.false_eq_true, if_false, opWp]; exact ⟨hn, es, u, he, hb, h⟩
theorem s_cpy {bk off len cap : Nat} {cs : List D} (h1 : s.hp.H[bk]? = some (.cells cs)) (h2 : off + len * n ≤ cs.length) (h3 : len ≤ cap) (he : zA4 s.hp n x = some es) (hK : zAh n es = true)
 (h : opsWp P r K ({ s with hp := { s.hp with H := s.hp.H.set bk (.cells (setL cs off (flatD (es.take len)))) } }.put dst (.int .i64 (min es.length len : Nat)))) : OpS P (.cpy n) [.sl bk n off len cap, x] dst r K s := by
 simp only [OpS, OcWp, zAb, isPan, Bool.false_eq_true, if_false, opWp, cpyWp]; exact ⟨trivial, cs, es, h1, h2, h3, he, hK, h⟩
theorem zAp : OpS P .newM [] dst r K s = opsWp P r K ({ s with hp := { s.hp with H := s.hp.H ++ [Blk.map [] 0] } }.put dst (.mp s.hp.H.length)) := by simp [OpS, OcWp, zAb, isPan, opWp]
theorem s_mpu {kd : MK} {bk clock : Nat} {es : List (D × D × Nat)} {k v : D} {B : Blk} (h1 : s.hp.H[bk]? = some (.map es clock)) (hk : keyOk kd k = true) (ha : (es.all fun e => keyOk kd e.1) = true) (hp : putM es clock k v = B)
 (h : opsWp P r K ({ s with hp := { s.hp with H := s.hp.H.set bk B } }.put dst .skip)) : OpS P (.mpu kd) [.mp bk, k, v] dst r K s := by
 subst hp
 simp only [OpS, OcWp, zAb, isPan, Bool.false_eq_true, if_false, opWp]; exact ⟨es, clock, h1, hk, ha, h⟩
theorem s_mdl {kd : MK} {bk clock : Nat} {es : List (D × D × Nat)} {k : D} {B : Blk} (h1 : s.hp.H[bk]? = some (.map es clock)) (hk : keyOk kd k = true) (ha : (es.all fun e => keyOk kd e.1) = true) (hp : delM es clock k = B)
 (h : opsWp P r K ({ s with hp := { s.hp with H := s.hp.H.set bk B } }.put dst (.tup []))) : OpS P (.mdl kd) [.mp bk, k] dst r K s := by
 subst hp
 simp only [OpS, OcWp, zAb, isPan, Bool.false_eq_true, if_false, opWp]; exact ⟨es, clock, h1, hk, ha, h⟩
theorem s_lkpS {kd : MK} {ok : Bool} {zero : D} {bk clock i : Nat} {es : List (D × D × Nat)} {k v : D} (h1 : s.hp.H[bk]? = some (.map es clock)) (hk : keyOk kd k = true) (ha : (es.all fun e => keyOk kd e.1) = true) (hf : findM k es 0 = some (i, v))
 (h : opsWp P r K (s.put dst (if ok then .tup [v, .bool true] else v))) : OpS P (.lkp kd ok zero) [.mp bk, k] dst r K s := by
 simp only [OpS, OcWp, zAb, isPan, Bool.false_eq_true, if_false, opWp]
 refine ⟨es, clock, h1, hk, ha, fun j x hx => ?_, fun hx => ?_⟩
 ·rw [hf] at hx; cases hx; exact h
 ·rw [hf] at hx; cases hx
theorem s_lkpN {kd : MK} {ok : Bool} {zero : D} {bk clock : Nat} {es : List (D × D × Nat)} {k : D} (h1 : s.hp.H[bk]? = some (.map es clock)) (hk : keyOk kd k = true) (ha : (es.all fun e => keyOk kd e.1) = true) (hf : findM k es 0 = none)
 (h : opsWp P r K (s.put dst (if ok then .tup [zero, .bool false] else zero))) : OpS P (.lkp kd ok zero) [.mp bk, k] dst r K s := by
 simp only [OpS, OcWp, zAb, isPan, Bool.false_eq_true, if_false, opWp]
 refine ⟨es, clock, h1, hk, ha, fun j x hx => ?_, fun hx => ?_⟩
 ·rw [hf] at hx; cases hx
 ·exact h
theorem zDb {bk clock : Nat} {es : List (D × D × Nat)} (h1 : s.hp.H[bk]? = some (.map es clock)) (h : opsWp P r K (s.put dst (.int .i64 es.length))) : OpS P .lenM [.mp bk] dst r K s := by
 simp only [OpS, OcWp, zAb, isPan, Bool.false_eq_true, if_false, opWp, zEu]; exact ⟨es, clock, h1, h⟩
theorem s_rngM {bk clock : Nat} {es : List (D × D × Nat)} (h1 : s.hp.H[bk]? = some (.map es clock))
 (h : opsWp P r K ({ s with hp := { s.hp with H := s.hp.H ++ [Blk.miter bk clock [] clock] } }.put dst (.ptr s.hp.H.length 0))) : OpS P .rngM [.mp bk] dst r K s := by
 simp only [OpS, OcWp, zAb, isPan, Bool.false_eq_true, if_false, opWp, zEp]; exact ⟨es, clock, h1, h⟩
theorem s_nxtM {bk m since st clock : Nat} {seen : List Nat} {es : List (D × D × Nat)} (h0 : s.hp.H[bk]? = some (.miter m since seen st)) (h1 : s.hp.H[m]? = some (.map es clock)) (h2 : ∀ e ∈ es, e.2.2 < since) (h3 : since ≤ st)
 (h4 : ∀ e ∈ es, e.2.2 ∉ seen → opsWp P r K ({ s with hp := { s.hp with H := s.hp.H.set bk (.miter m since (seen ++ [e.2.2]) clock) } }.put dst (.tup [.bool true, e.1, e.2.1])))
 (h5 : (∀ e ∈ es, e.2.2 ∈ seen) → opsWp P r K (s.put dst (.tup [.bool false]))) : OpS P .nxtM [.ptr bk 0] dst r K s := by
 simp only [OpS, OcWp, zAb, isPan, Bool.false_eq_true, if_false, opWp]; exact .inr ⟨m, since, seen, st, es, clock, h0, h1, h2, h3, h4, h5⟩
theorem s_nxtZ {bk : Nat} (h0 : s.hp.H[bk]? = some nilIt) (h : opsWp P r K (s.put dst (.tup [.bool false]))) : OpS P .nxtM [.ptr bk 0] dst r K s := by
 simp only [OpS, OcWp, zAb, isPan, Bool.false_eq_true, if_false, opWp]; exact .inl ⟨h0, h⟩
theorem o_lenZ : OpS P .lenM [.lit (.map none)] dst r K s = opsWp P r K (s.put dst (.int .i64 0)) := by simp [OpS, OcWp, zAb, isPan, opWp, zEu]
theorem o_rngZ : OpS P .rngM [.lit (.map none)] dst r K s = opsWp P r K ({ s with hp := { s.hp with H := s.hp.H ++ [nilIt] } }.put dst (.ptr s.hp.H.length 0)) := by simp [OpS, OcWp, zAb, isPan, opWp, zEp]
theorem s_ent {bk m since clock nb : Nat} {seen : List Nat} {es : List (D × D × Nat)} {k v : D} (h0 : s.hp.H[bk]? = some (.miter m since (seen ++ [nb]) clock)) (h1 : s.hp.H[m]? = some (.map es clock)) (h2 : (es.map (·.2.2)).Nodup) (h3 : (k, v, nb) ∈ es)
 (h : opsWp P r K (s.put dst (.tup [k, v]))) : OpS P .ent [.ptr bk 0] dst r K s := by
 simp only [OpS, OcWp, zAb, isPan, Bool.false_eq_true, if_false, opWp]; exact ⟨m, since, seen, es, clock, nb, k, v, h0, h1, h2, h3, h⟩
theorem o_eff {f : FuncId} {first cap ds' : List D} {hp0 : Hp} {R : D → Hp → Prop} (bl tl : List Nat) (h : Eff P f ds' hp0 R) (hs : SelOk s.hp bl tl) (hd : D.rnL (posF bl) (posF tl) (first ++ ds ++ cap) = ds') (hh : s.hp.sel bl tl = hp0)
 (hk : ∀ d hp1, R d hp1 → opsWp P r K ({ s with hp := s.hp.back bl tl hp1 }.put dst (d.rn (bakF bl s.hp.H.length) (bakF tl s.hp.tk.length)))) : OpS P .call (.fn (.func f) first cap :: ds) dst r K s := by
 unfold OpS OcWp
 simp only [zAb, if_true]
 exact call_eff bl tl h hs hd hh hk
end
theorem zAc {f : FuncId} {first cap : List D} {d : D} {ds' : List D} (h : Pur P f ds' d) (he : D.erL (first ++ ds ++ cap) = ds') (hc : D.cL (first ++ ds ++ cap) = true) (hk : opsWp P r K (s.put dst d)) :
 OpS P .call (.fn (.func f) first cap :: ds) dst r K s := by
 unfold OpS OcWp
 simp only [zAb, if_true]
 exact call_pur hc (he ▸ h) hk
theorem c_call {f : FuncId} {first cap : List D} {d : D} {ds' : List D} (h : Pur P f ds' d) (he : D.erL (first ++ ds ++ cap) = ds') (hc : D.cL (first ++ ds ++ cap) = true) (hk : opsQ P rq K (s.put dst d)) :
 OpC P .call (.fn (.func f) first cap :: ds) dst rq K s := by
 unfold OpC detWp OcWp
 simp only [zAb, if_true]
 exact ⟨d, s.hp, call_pur hc (he ▸ h) ⟨rfl, rfl⟩, hk⟩
theorem zDi {f : FuncId} {first cap : List D} {d : D} {ds' : List D} (h : Pur P f ds' d) (he : D.erL (first ++ ds ++ cap) = ds') (hc : D.cL (first ++ ds ++ cap) = true) (hk : opsQ P rq K (s.put dst d)) :
 OpQ P .call (.fn (.func f) first cap :: ds) dst rq K s := by
 unfold OpQ zAf CallQ
 simp only [zAb, if_true]
 exact ⟨d, call_pur hc (he ▸ h) ⟨rfl, rfl⟩, hk⟩
end
section
variable {P : Mod} {oc : OC} {args : List Opd} {dst : Dst} {r : List RO} {rq : List (RO × Bool)} {qf : Bool} {K : St → Prop} {s : St} {g : Opd} {want : Bool} {C : Cfg} {Q : Ex → St → Prop} {x y : RC}
def CdS (C : Cfg) (b : D) (g : Opd) (x y : RC) (Q : Ex → St → Prop) (s : St) : Prop :=
 match b with
 | .bool t => (t = true → SWp C x Q (s.setO g (.bool true))) ∧ (t = false → SWp C y Q (s.setO g (.bool false)))
 | _ => False
theorem swp_cd (h : CdS C (s.get g) g x y Q s) : SWp C (.cond g x y) Q s := by
 unfold CdS at h
 split at h
 ·rename_i t ht; exact swp_cond ht h.1 h.2
 ·exact h.elim
theorem e_cdT : CdS C (.bool true) g x y Q s = SWp C x Q (s.setO g (.bool true)) := by simp [CdS]
theorem e_cdF : CdS C (.bool false) g x y Q s = SWp C y Q (s.setO g (.bool false)) := by simp [CdS]
theorem cd_split {c : Bool} (h1 : c = true → SWp C x Q (s.setO g (.bool true))) (h2 : c = false → SWp C y Q (s.setO g (.bool false))) : CdS C (.bool c) g x y Q s := ⟨h1, h2⟩
theorem rr_slot {o : Opd} {K : D → Prop} : rrWp (.slot o) s K = K (s.get o) := propext Iff.rfl
def RcS (ag : Bool) (n : Nat) (p : D) (H : List Blk) (K : D → Prop) : Prop :=
 match p with
 | .ptr b off => ∃ cs, H[b]? = some (.cells cs) ∧ off + n ≤ cs.length ∧ K (if ag then .agg ((cs.drop off).take n) else cs.getD off .u0)
 | _ => False
theorem rr_cell {o : Opd} {ag : Bool} {n : Nat} {K : D → Prop} : rrWp (.cell o ag n) s K = RcS ag n (s.get o) s.hp.H K := by
 unfold rrWp RcS; rfl
def RcB (ag : Bool) (n off : Nat) (B : Option Blk) (K : D → Prop) : Prop := ∃ cs, B = some (.cells cs) ∧ off + n ≤ cs.length ∧ K (if ag then .agg ((cs.drop off).take n) else cs.getD off .u0)
theorem rr_ptr {ag : Bool} {n b off : Nat} {H : List Blk} {K : D → Prop} : RcS ag n (.ptr b off) H K = RcB ag n off (H[b]?) K := propext Iff.rfl
theorem rr_T {n off : Nat} {cs : List D} {K : D → Prop} : RcB true n off (some (.cells cs)) K = (off + n ≤ cs.length ∧ K (.agg ((cs.drop off).take n))) := by simp [RcB]
theorem rr_F {n off : Nat} {cs : List D} {K : D → Prop} : RcB false n off (some (.cells cs)) K = (off + n ≤ cs.length ∧ K (cs.getD off .u0)) := by simp [RcB]
theorem rs_nil {K : List D → Prop} : rrsWp [] s K = K [] := propext Iff.rfl
theorem rs_cons {r : RR} {rs : List RR} {K : List D → Prop} : rrsWp (r :: rs) s K = rrWp r s fun d => rrsWp rs s fun ds => K (d :: ds) := propext Iff.rfl
end
theorem w64 {n : Int} (h1 : -9223372036854775808 ≤ n) (h2 : n ≤ 9223372036854775807) : IntKind.i64.wrap n = n := by
 rw [IntKind.wrap_i64]
 omega
attribute [go_sem] o_lenM p_lenM o_lenG p_lenG o_ixaM p_ixaM o_ixaG p_ixaG o_fldg p_fldg o_rng o_ldg p_ldg q_lgST q_lgSF q_lgQT q_lgQF o_stg q_sgS
attribute [go_sem] f_stepD zAb qOp
attribute [go_sem] decide_true decide_false o_eqN o_eqP eqpWp o_eqI eqiWp o_lenZ o_rngZ n_nil n_emp n_cons n_sl e_nil e_step e_guard f_nil f_step f_guard g_tt g_tf g_ft g_ff g_sk h_tt h_tf h_ft h_ff h_sk o_mv p_mv o_pickT o_pickF p_pickT p_pickF o_add o_sub o_mul o_quo o_rem o_and o_or o_xor o_shl o_shr o_eql o_neq o_lss o_leq o_gtr o_geq p_add p_sub p_mul p_quo p_rem p_eql p_neq p_lss p_leq p_gtr p_geq o_cat o_seq o_sne o_slt p_cat p_seq p_sne p_slt o_beqF o_beqT p_beqF p_beqT o_eqA p_eqA q_eqSF q_eqST q_eqQF q_eqQT o_neg p_neg o_not p_not o_cvI p_cvI o_newb o_box o_bld p_bld q_blS q_blQ o_ldp p_ldp o_nckP p_nckP o_nckI p_nckI o_nckG p_nckG o_nckM p_nckM nckOk_some true_and q_ldST q_ldSTt q_ldSFt q_ldQTt q_ldQFt q_stSt o_newT q_ldSF q_ldQT q_ldQF o_ldiT o_ldiF p_ldiT p_ldiF o_stp q_stS o_fldp p_fldp o_fldi p_fldi o_fvT o_fvF p_fvT p_fvF o_ixaA p_ixaA o_ixaS p_ixaS o_ixvS p_ixvS o_slTF p_slTF o_slFT p_slFT o_slTT p_slTT o_ext p_ext o_lenS p_lenS o_lenL p_lenL o_lenN p_lenN o_min p_min o_max p_max q_mmS q_mmQ o_mkI p_mkI o_mkF p_mkF e_cdT e_cdF rr_slot rr_cell rr_ptr rr_T rr_F rs_nil rs_cons
attribute [go_sem] St.get St.put St.setO setK St.done lk List.map_cons List.map_nil List.getD_cons_zero List.getD_cons_succ List.set_cons_zero List.set_cons_succ List.getElem?_cons_zero List.getElem?_cons_succ List.length_cons List.length_nil List.nil_append List.cons_append List.drop_zero List.drop_succ_cons List.take_zero List.take_succ_cons List.drop_nil List.take_nil D.iV D.cells fillL setL eqDs eqD foldI Nat.succ_eq_add_one Nat.le_refl Nat.zero_add Nat.add_zero Int.toNat_natCast ite_true ite_false ne_eq not_false_eq_true not_true_eq_false true_and and_true and_self Bool.false_eq_true Bool.not_true Bool.not_false Bool.and_true Bool.true_and decide_eq_true_eq zBd D.closed D.cL D.er D.erL D.rn D.rnL Own.rn Blk.rn Tv.rn Blk.rnL Tv.rnL Hp.back Hp.sel putAt posF bakF idx flatD zeros
section
variable {P P' : Mod} {C : Cfg} {oc : OC} {args : List Opd} {dst : Dst} {r : List RO} {rq : List (RO × Bool)} {qf : Bool} {K : St → Prop} {s s' : St} {g : Opd} {want ag neg : Bool} {x y : RC} {b b' : D} {ds ds' : List D} {B B' : Option Blk} {off off' n bk bk' : Nat} {v v' : D} {k : IntKind} {Q : Ex → St → Prop}
/- Where simp looks: at the program, the values and the state; never at the code that is still to come. -/
@[congr] theorem cg_ops (h1 : P = P') (h2 : s = s') : opsWp P r K s = opsWp P' r K s' := by rw [h1, h2]
@[congr] theorem cg_opsQ (h1 : P = P') (h2 : s = s') : opsQ P rq K s = opsQ P' rq K s' := by rw [h1, h2]
@[congr] theorem cg_OpS (h1 : P = P') (h2 : ds = ds') (h3 : s = s') : OpS P oc ds dst r K s = OpS P' oc ds' dst r K s' := by rw [h1, h2, h3]
@[congr] theorem cg_OpC (h1 : P = P') (h2 : ds = ds') (h3 : s = s') : OpC P oc ds dst rq K s = OpC P' oc ds' dst rq K s' := by rw [h1, h2, h3]
@[congr] theorem cg_OpQ (h1 : P = P') (h2 : ds = ds') (h3 : s = s') : OpQ P oc ds dst rq K s = OpQ P' oc ds' dst rq K s' := by rw [h1, h2, h3]
@[congr] theorem cg_GdS (h1 : P = P') (h2 : b = b') (h3 : s = s') : GdS P b g want dst oc args r K s = GdS P' b' g want dst oc args r K s' := by rw [h1, h2, h3]
@[congr] theorem cg_GdQ (h1 : P = P') (h2 : b = b') (h3 : s = s') : GdQ P qf b g want dst oc args rq K s = GdQ P' qf b' g want dst oc args rq K s' := by rw [h1, h2, h3]
@[congr] theorem cg_CdS (h2 : b = b') (h3 : s = s') : CdS C b g x y Q s = CdS C b' g x y Q s' := by rw [h2, h3]
@[congr] theorem cg_SWp (h3 : s = s') : SWp C x Q s = SWp C x Q s' := by rw [h3]
@[congr] theorem cg_LdS (h1 : P = P') (h2 : B = B') (h4 : off = off') (h3 : s = s') : LdS P ag n B off dst r K s = LdS P' ag n B' off' dst r K s' := by rw [h1, h2, h3, h4]
@[congr] theorem cg_LdQ (h1 : P = P') (h2 : B = B') (h4 : off = off') (h3 : s = s') : LdQ P ag n B off dst rq K s = LdQ P' ag n B' off' dst rq K s' := by rw [h1, h2, h3, h4]
@[congr] theorem cg_StS (h1 : P = P') (h2 : B = B') (h5 : bk = bk') (h4 : off = off') (h6 : v = v') (h3 : s = s') : StS P n B bk off v dst r K s = StS P' n B' bk' off' v' dst r K s' := by rw [h1, h2, h3, h4, h5, h6]
@[congr] theorem cg_LgS {V V' : Option Tv} {m m' : Nat} (h1 : P = P') (h2 : V = V') (h5 : m = m') (h4 : off = off') (h3 : s = s') : LgS P ag n V m off dst r K s = LgS P' ag n V' m' off' dst r K s' := by rw [h1, h2, h3, h4, h5]
@[congr] theorem cg_LgQ {V V' : Option Tv} {m m' : Nat} (h1 : P = P') (h2 : V = V') (h5 : m = m') (h4 : off = off') (h3 : s = s') : LgQ P ag n V m off dst rq K s = LgQ P' ag n V' m' off' dst rq K s' := by rw [h1, h2, h3, h4, h5]
@[congr] theorem cg_SgS {V V' : Option Tv} {m m' : Nat} (h1 : P = P') (h2 : V = V') (h5 : bk = bk') (h7 : m = m') (h4 : off = off') (h6 : v = v') (h3 : s = s') : SgS P n V bk m off v dst r K s = SgS P' n V' bk' m' off' v' dst r K s' := by rw [h1, h2, h3, h4, h5, h6, h7]
end
end GoV
end
section
set_option linter.unusedSimpArgs false
namespace GoV
open Go Go.RowKit
def varMod (P : Program) (gs : List (Nat × (Array Value → Prop))) : Mod where
 P := P
 amb := fun w r => ∀ p ∈ gs, p.1 ∉ r ∧ ∃ cs e fr, p.2 cs ∧ w.heap[p.1]? = some (.cells cs e fr)
 up := by
  intro w r w' r' h k hr p hp
  obtain ⟨h1, cs, e, fr, h3, h2⟩ := h p hp
  have hlt : p.1 < w.heap.size := by
   rcases Nat.lt_or_ge p.1 w.heap.size with g | g
   ·exact g
   ·rw [Array.getElem?_eq_none g] at h2; cases h2
  refine ⟨fun hm => ?_, cs, e, fr, h3, ?_⟩
  ·rcases hr _ hm with g | g
   ·exact h1 g
   ·omega
  ·rw [k.block _ hlt h1]; exact h2
theorem var_of {P : Program} {gs : List (Nat × (Array Value → Prop))} {w : World} {r : List Nat} (h : (varMod P gs).amb w r) {g : Nat} {p : Array Value → Prop} (hm : (g, p) ∈ gs) : ∃ cs e fr, p cs ∧ w.heap[g]? = some (.cells cs e fr) :=
 (h _ hm).2
theorem zF1 {P : Program} {gs : List (Nat × (Array Value → Prop))} {w : World} {r : List Nat} (h : (varMod P gs).amb w r) {g : Nat} {p : Value → Prop} (hm : (g, fun cs => ∃ v, p v ∧ cs = #[v]) ∈ gs) : ∃ v, p v ∧ w.cell? ⟨g, 0, none⟩ = some v := by
 obtain ⟨cs, e, fr, ⟨v, hp, rfl⟩, h2⟩ := var_of h hm
 exact ⟨v, hp, by simp [World.cell?, h2]⟩
theorem tabIs_var {P : Program} {gs : List (Nat × (Array Value → Prop))} {w : World} {r : List Nat} {name : String} {g : Nat} {k : IntKind} {zs : List Int}
 (h : (varMod P gs).amb w r) (hg : P.globalNamed name = some g) (hm : (g, fun cs => cs = (zs.map fun z => Value.int k z).toArray) ∈ gs) : Lib.TabIs P w name k zs := by
 obtain ⟨cs, e, fr, h3, h2⟩ := var_of h hm
 subst h3
 unfold Lib.TabIs World.var?
 rw [hg]
 simp [h2]
theorem gh_nil {w : World} {g : Gh} (h : HeapRel w g ⟨[], []⟩) : g = ⟨[], [], g.I⟩ := by
 have a1 := h.len
 have a2 := h.lent
 obtain ⟨r, tk, I⟩ := g
 have b1 : r = [] := List.eq_nil_of_length_eq_zero a1.symm
 have b2 : tk = [] := List.eq_nil_of_length_eq_zero a2.symm
 subst b1; subst b2; rfl
theorem heap_nil {w : World} {I : Nat → Nat → Prop} (hI : ∀ b o, I b o → b < w.heap.size) : HeapRel w ⟨[], [], I⟩ ⟨[], []⟩ :=
 ⟨rfl, by simp, by simp, by simp, rfl, by simp, by simp, by simp [blks], fun b o h => ⟨hI b o h, by simp⟩⟩
theorem inv_below {w w' : World} {I I' : Nat → Nat → Prop} (h : HeapRel w ⟨[], [], I⟩ ⟨[], []⟩) (hb : Below w.heap.size w w') (h1 : ∀ b o, I b o → I' b o) (h2 : ∀ b o, I' b o → I b o ∨ (w.heap.size ≤ b ∧ b < w'.heap.size)) :
 Inv w ⟨[], [], I⟩ ⟨[], []⟩ w' ⟨[], [], I'⟩ := by
 refine ⟨heap_nil fun b o ho => ?_, ⟨fun b o ho => ⟨h1 b o ho, cell_of_heap (hb.block b (h.imm b o ho).1)⟩, by simp, by simp⟩, ⟨hb.os, hb.tape, hb.output, hb.size, fun b hb' _ => hb.block b hb'⟩, by simp, by simp [blks], fun b o ho => ?_⟩
 ·rcases h2 b o ho with q | q
  ·exact Nat.lt_of_lt_of_le (h.imm b o q).1 hb.size
  ·exact q.2
 ·rcases h2 b o ho with q | q
  ·exact .inl q
  ·exact .inr (.inl q.1)
theorem pur_extM {M : Mod} {f : FuncId} {args : List D} {d : D} {vs : List Value} (hc : zBu M f) (ha : ∀ w g xs, RelL w g args xs → xs = vs)
 (h : ∀ w, M.amb w [] → Calls M.P f vs.toArray w fun e w' => ∃ v, e = .returned v ∧ Below w.heap.size w w' ∧
  ∀ I : Nat → Nat → Prop, ∃ I' : Nat → Nat → Prop, (∀ b o, I b o → I' b o) ∧ (∀ b o, I' b o → I b o ∨ (w.heap.size ≤ b ∧ b < w'.heap.size)) ∧ Rel w' ⟨[], [], I'⟩ d v) : Pur M f args d := by
 refine ⟨hc, fun w g xs hA hH hargs => ?_⟩
 have hg := gh_nil hH
 rw [hg] at hA hH ⊢
 rw [ha w _ xs hargs]
 refine (h w (by simpa [Gh.own, blks] using hA)).mono fun e w' hp => ?_
 obtain ⟨v, rfl, hb, hI⟩ := hp
 obtain ⟨I', h1, h2, h3⟩ := hI g.I
 exact ⟨v, d, ⟨[], []⟩, _, rfl, ⟨rfl, rfl⟩, inv_below hH hb h1 h2, h3⟩
theorem pur_ext {M : Mod} {f : FuncId} {args : List D} {d : D} {vs : List Value} {v : Value} (hc : zBu M f) (ha : ∀ w g xs, RelL w g args xs → xs = vs) (hd : ∀ w g, Rel w g d v)
 (h : ∀ w, M.amb w [] → Calls M.P f vs.toArray w fun e w' => e = .returned v ∧ Below w.heap.size w w') : Pur M f args d := by
 refine pur_extM hc ha fun w hA => (h w hA).mono fun e w' hp => ?_
 obtain ⟨rfl, hb⟩ := hp
 exact ⟨v, rfl, hb, fun I => ⟨I, fun _ _ h => h, fun _ _ h => .inl h, hd _ _⟩⟩
theorem calls_of_pur {M : Mod} {f : FuncId} {args : List D} {d : D} (h : Pur M f args d) {w : World} (hA : M.amb w []) {xs : List Value} (hargs : RelL w ⟨[], [], fun b _ => b < w.heap.size⟩ args xs) :
 Calls M.P f xs.toArray w fun e w' => ∃ v g', e = .returned v ∧ Rel w' g' d v ∧ Below w.heap.size w w' := by
 refine (h.2 w ⟨[], [], fun b _ => b < w.heap.size⟩ xs (by simpa [Gh.own, blks] using hA) (heap_nil fun b o hb => hb) hargs).mono fun e w' hp => ?_
 obtain ⟨v, d', hp', g', rfl, ⟨rfl, rfl⟩, g3, g4⟩ := hp
 exact ⟨v, g', rfl, g4, g3.keeps.os, g3.keeps.tape, g3.keeps.output, g3.keeps.size, fun k hk => g3.keeps.block k hk (by simp [Gh.own, blks])⟩
open Go.Sort in
theorem below_grow {w : World} (k : Nat) (os : Array Obj) : Below w.heap.size w (grow (w.drewN k) os) :=
 ⟨rfl, rfl, rfl, by simp [grow, World.drewN], fun j hj => by
  show (w.heap ++ os)[j]? = w.heap[j]?
  rw [Array.getElem?_append_left hj]⟩
end GoV
end
section
namespace GoV
open Go
def St.keep (ks : List Nat) (s : St) : St := { s with env := keepE ks 0 s.env }
theorem zAs {C : Cfg} {x : RC} {Q : Ex → St → Prop} {s : St} {α : Type} (ks : List Nat) (f : α → St) (inv : α → Prop) (μ : α → Nat) (a0 : α) (h0 : inv a0) (e0 : s.keep ks = f a0)
 (round : ∀ a, inv a → SWp C x (fun e s' => match e with | .normal => ∃ a', inv a' ∧ μ a' < μ a ∧ s'.keep ks = f a' | e => Q e s') (f a)) : SWp C (.loop x) Q s := by
 refine swp_loop (fun n t => ∃ a, inv a ∧ μ a = n ∧ t = f a) (μ a0) ⟨_, zB2 ks, a0, h0, rfl, e0⟩ ?_
 rintro n t ⟨a, h1, rfl, rfl⟩
 refine swp_mono (round a h1) fun e s' hq => ?_
 cases e
 ·obtain ⟨a', g1, g2, g3⟩ := hq
  exact ⟨s', zAa, _, _, zB2 ks, g2, a', g1, rfl, g3⟩
 all_goals exact ⟨s', zAa, hq⟩
def St.keepG (ks : List Nat) (n m : Nat) (s : St) : St := (s.keep ks).gc n m
theorem zE8 {C : Cfg} {x : RC} {Q : Ex → St → Prop} {s : St} {α : Type} (ks : List Nat) (n m : Nat) (hn : C.n0 ≤ n) (hm : C.m0 ≤ m) (f : α → St) (inv : α → Prop) (μ : α → Nat) (a0 : α) (h0 : inv a0) (e0 : s.keepG ks n m = f a0)
 (round : ∀ a, inv a → SWp C x (fun e s' => match e with | .normal => ∃ a', inv a' ∧ μ a' < μ a ∧ s'.keepG ks n m = f a' | e => Q e s') (f a)) : SWp C (.loop x) Q s := by
 have hw : ∀ s : St, Weak C s (s.keepG ks n m) := fun s => zCz (zB2 ks) (zD1 n m hn hm)
 refine swp_loop (fun n t => ∃ a, inv a ∧ μ a = n ∧ t = f a) (μ a0) ⟨_, hw s, a0, h0, rfl, e0⟩ ?_
 rintro k t ⟨a, h1, rfl, rfl⟩
 refine swp_mono (round a h1) fun e s' hq => ?_
 cases e
 ·obtain ⟨a', g1, g2, g3⟩ := hq
  exact ⟨s', zAa, _, _, hw s', g2, a', g1, rfl, g3⟩
 all_goals exact ⟨s', zAa, hq⟩
theorem w32 {n : Int} (h1 : -2147483648 ≤ n) (h2 : n ≤ 2147483647) : IntKind.i32.wrap n = n := by rw [IntKind.wrap_i32]; omega
theorem wu8 {n : Int} (h1 : 0 ≤ n) (h2 : n ≤ 255) : IntKind.u8.wrap n = n := by rw [IntKind.wrap_u8]; omega
theorem wu16 {n : Int} (h1 : 0 ≤ n) (h2 : n ≤ 65535) : IntKind.u16.wrap n = n := by
 have : IntKind.u16.wrap n = n % 65536 := by simp [IntKind.wrap, IntKind.bits, IntKind.signed]
 rw [this]; omega
theorem wu32 {n : Int} (h1 : 0 ≤ n) (h2 : n ≤ 4294967295) : IntKind.u32.wrap n = n := by rw [IntKind.wrap_u32]; omega
theorem wu64 {n : Int} (h1 : 0 ≤ n) (h2 : n ≤ 18446744073709551615) : IntKind.u64.wrap n = n := by
 have : IntKind.u64.wrap n = n % 18446744073709551616 := by simp [IntKind.wrap, IntKind.bits, IntKind.signed]
 rw [this]; omega
theorem lN1 {α : Type} {a : α} {l : List α} : (a :: l).length = l.length + 1 := List.length_cons
theorem lN2 {α : Type} : ([] : List α).length = 0 := List.length_nil
theorem lN3 {α : Type} {a b : List α} : (a ++ b).length = a.length + b.length := List.length_append
theorem lN4 {α β : Type} {f : α → β} {l : List α} : (l.map f).length = l.length := List.length_map f
theorem lN5 {α : Type} {n : Nat} {a : α} : (List.replicate n a).length = n := List.length_replicate
theorem lN6 {α : Type} {n : Nat} {l : List α} : (l.take n).length = min n l.length := List.length_take
theorem lN7 {α : Type} {n : Nat} {l : List α} : (l.drop n).length = l.length - n := List.length_drop
theorem lN : (∀ {α : Type} {a : α} {l : List α}, (a :: l).length = l.length + 1) ∧ (∀ {α : Type}, ([] : List α).length = 0) ∧ (∀ {α : Type} {a b : List α}, (a ++ b).length = a.length + b.length) ∧ (∀ {α β : Type} {f : α → β} {l : List α}, (l.map f).length = l.length) ∧ (∀ {α : Type} {n : Nat} {a : α}, (List.replicate n a).length = n) ∧ (∀ {α : Type} {n : Nat} {l : List α}, (l.take n).length = min n l.length) ∧ (∀ {α : Type} {n : Nat} {l : List α}, (l.drop n).length = l.length - n) := ⟨lN1, lN2, lN3, lN4, lN5, lN6, lN7⟩
end GoV
end
section
namespace GoV
open Go Go.RowKit Go.ChangeShapes
theorem keptBut_of_below {W W' : World} {may : MemPlace → Prop} (h : Below W.heap.size W W') : W.keptBut W' may := by
 refine ⟨h.os, h.output, fun i hi => ?_⟩
 rw [h.block i hi]
 split <;> simp_all
theorem post_of_below {P : Program} {H : Type} {enc : TypeId × Value → H} {f : Func} {s : ChangeSpec} {apart fresh handsOn again : Bool} {W W' : World} {args : Array Value} {v : Value} {ds gs : List (DataW H)} {before pa pv : List MemPlace}
 (hW : DataW.Whole enc P f.params.toList s.vars apart W args.toList ds gs before)
 (hres : ∀ (b : Nat) (sp : Nat → Bool) (hd : Bool), DataW.TrodAll enc P W' b sp hd f.resultTypes.toList (v.resultList f.resultTypes.size) (s.fn H (ds ++ gs)).results [])
 (hargs : ∀ sp : Nat → Bool, (∀ p ∈ before, sp p.block = true) → DataW.TrodAll enc P W' 0 sp true f.params.toList args.toList (s.fn H (ds ++ gs)).args pa)
 (hvars : ∀ sp : Nat → Bool, (∀ p ∈ before, sp p.block = true) → DataW.TrodVars enc P W' sp s.vars (s.fn H (ds ++ gs)).vars pv)
 (hps : before = pa ++ pv) (hb : Below W.heap.size W W')
 (hok : ∀ (j : Nat) (t : TypeId) (r : Value), f.resultTypes[j]? = some t → (v.resultList f.resultTypes.size)[j]? = some r → Value.okWide P W' .any 0 t r) :
 s.post enc P f apart fresh handsOn again W args v W' := by
 have hlt : ∀ p ∈ before, p.block < W.heap.size := fun p hp => hW.lt p hp
 have hold : ∀ p ∈ before, (fun b => decide (b < W.heap.size)) p.block = true := fun p hp => by simpa using hW.lt p hp
 refine ⟨ds, gs, before, [], pa, pv, hW, hres _ _ _, hargs _ hold, hvars _ hold, World.keptBut_mono (fun p hp => ⟨hp, ?_⟩) (keptBut_of_below (may := (· ∈ before)) hb), fun _ => ?_⟩
 ·rw [hps, List.mem_append] at hp
  exact Or.inr hp
 ·obtain ⟨_, _, _, _, _, hz, hn⟩ := hW
  refine ⟨hok, _, _, ([] ++ pa) ++ pv, ⟨[] ++ pa, pv, trodAll_append (hargs _ (fun _ _ => rfl)) (hres _ _ _), hvars _ (fun _ _ => rfl), rfl, ?_, ?_⟩, ?_⟩
  ·intro b off hp
   have hp' : MemPlace.cell b off ∈ before := by rw [hps]; simpa using hp
   have hl : b < W.heap.size := hlt _ hp'
   have e : W'.frozen? ⟨b, off, none⟩ = W.frozen? ⟨b, off, none⟩ := by
    simp only [World.frozen?, hb.block b hl]
   rw [e]
   exact hz b off hp'
  ·intro ha
   have := hn ha
   rw [hps] at this
   simpa using this
  ·intro p hp _
   rw [hps]
   simpa using hp
theorem int_bounds {n : Int} (h : (Lit.int .i64 n).wf = true) : -9223372036854775808 ≤ n ∧ n ≤ 9223372036854775807 := by
 simp [Lit.wf] at h
 exact h
end GoV
end
section
set_option linter.unusedSimpArgs false
set_option linter.unusedVariables false
set_option maxHeartbeats 1000000
namespace GoV
open Go
def noCells : Obj → Bool
 | .cells .. => false
 | _ => true
structure Turn (w w' : World) (D : Nat) : Prop where
 os : w'.os = w.os
 tape : w'.tape = w.tape
 output : w'.output = w.output
 size : w'.heap.size = w.heap.size
 block : ∀ b, b ≠ D → w'.heap[b]? = w.heap[b]?
 cell : ∀ o, w'.cell? ⟨D, o, none⟩ = w.cell? ⟨D, o, none⟩
theorem cell_noCells {w : World} {D : Nat} {o : Obj} (h : w.heap[D]? = some o) (ho : noCells o = true) (i : Nat) : w.cell? ⟨D, i, none⟩ = none := by
 unfold World.cell?
 simp only [h]
 cases o <;> simp_all [noCells]
theorem Turn.put {w : World} {D : Nat} {o o' : Obj} (h : w.heap[D]? = some o) (h1 : noCells o = true) (h2 : noCells o' = true) : Turn w (w.putObj D o') D := by
 have hlt : D < w.heap.size := (Array.getElem?_eq_some_iff.1 h).1
 refine ⟨rfl, rfl, rfl, by simp [World.putObj], fun b hb => World.putObj_heap_other hb, fun i => ?_⟩
 rw [cell_noCells h h1, cell_noCells (World.putObj_heap_same hlt) h2]
theorem Turn.evo {w w' : World} {D : Nat} (h : Turn w w' D) (g : Gh) : Evo w g w' g := by
 refine ⟨fun b o hi => ⟨hi, ?_⟩, fun _ _ h => h, fun _ T h => ⟨T, h, rfl, .inl rfl⟩⟩
 by_cases e : b = D
 ·subst e; exact h.cell o
 ·exact cell_of_heap (h.block b e)
theorem Turn.heap {w w' : World} {D : Nat} (h : Turn w w' D) {g : Gh} {hp : Hp} (hD : D ∉ g.own) (hh : HeapRel w g hp) : HeapRel w' g hp :=
 hh.other (h.evo g) rfl rfl (fun n hn => h.block n fun e => hD (e ▸ hn)) (Nat.le_of_eq h.size.symm) fun b o ho => .inl ho
theorem Turn.inv {w w' : World} {D : Nat} (h : Turn w w' D) {w0 : World} {B g : Gh} {hp : Hp} (hD : D ∉ g.own) (hlt : w0.heap.size ≤ D) (hi : Inv w0 B hp w g) : Inv w0 B hp w' g := by
 refine ⟨h.heap hD hi.heap, hi.evo.trans (h.evo g), ?_, hi.newr, hi.newt, hi.i1⟩
 exact ⟨h.os.trans hi.keeps.os, h.tape.trans hi.keeps.tape, h.output.trans hi.keeps.output, by rw [h.size]; exact hi.keeps.size,
  fun b hb hn => (h.block b (by omega)).trans (hi.keeps.block b hb hn)⟩
theorem Inv.refl' {w : World} {g : Gh} {hp : Hp} (h : HeapRel w g hp) : Inv w g hp w g :=
 ⟨h, Evo.refl _ _, Keeps.refl _ _, fun _ h => .inl h, fun _ h => .inl h, fun _ _ h => .inl h⟩
theorem Inv.join {w0 w1 w : World} {B B1 G : Gh} {hp1 hp : Hp} (h : Inv w0 B hp1 w1 B1) (k : Inv w1 B1 hp w G) : Inv w0 B hp w G := by
 have hsz := h.keeps.size
 refine ⟨k.heap, h.evo.trans k.evo, h.keeps.trans' k.keeps h.new, fun n hn => ?_, fun n hn => ?_, fun b o ho => ?_⟩
 ·rcases k.newr n hn with q | q
  ·exact h.newr n q
  ·exact .inr (Nat.le_trans hsz q)
 ·rcases k.newt n hn with q | q
  ·exact h.newt n q
  ·exact .inr (Nat.le_trans hsz q)
 ·rcases k.i1 b o ho with q | q | q
  ·exact h.i1 b o q
  ·exact .inr (.inl (Nat.le_trans hsz q))
  ·rcases h.newt b q with p | p
   ·exact .inr (.inr p)
   ·exact .inr (.inl p)
def YOk (M : Mod) (l : Nat) (x : List D) (hp hp' : Hp) : Prop :=
 ∀ w0 B, M.base w0 B → ∀ w G vs, Inv w0 B hp w G → RelL w G x vs → YieldAt Fence.wide 0 M.P l vs.toArray w (CallPost w0 B w G fun d h => d = .bool true ∧ h = hp')
def yldD (l : Nat) : D := .lit (.func (.yield l) #[] #[])
theorem call_yield {M : Mod} {l : Nat} {x : List D} {hp hp' : Hp} {K : D → Hp → Prop} (h : YOk M l x hp hp') (hk : K (.bool true) hp') : CallOp M (yldD l :: x) hp K := by
 intro w0 B w G vs hA hi hr
 obtain ⟨v, av, rfl, h1, h2⟩ := hr.inv
 simp only [yldD, Rel] at h1
 obtain ⟨rfl, _⟩ := h1
 refine .inr (.inl ⟨l, av, rfl, ?_⟩)
 obtain ⟨fn, tmps, asg, bd, e1, e2⟩ := h w0 B hA.2 w G av hi h2
 refine ⟨fn, tmps, asg, bd, e1, e2.mono fun e w' hp => ?_⟩
 obtain ⟨v, d, hp1, G', rfl, ⟨rfl, rfl⟩, g1, g2, g3⟩ := hp
 exact ⟨v, _, _, _, rfl, hk, g1, g2, g3⟩
def Mod.with (M : Mod) (b : World → Gh → Prop) : Mod := { M with base := b }
theorem o_yield {M : Mod} {r : List RO} {K : St → Prop} {s : St} {dst : Dst} {l : Nat} {x x' : List D} {hp hp' : Hp} (h : YOk M l x' hp hp') (he : x = x') (hh : s.hp = hp) (hk : opsWp M r K ({ s with hp := hp' }.put dst (.bool true))) :
 OpS M .call (yldD l :: x) dst r K s := by
 subst he; subst hh
 unfold OpS OcWp
 simp only [zAb, if_true]
 exact call_yield h hk
theorem zEq {C C' : Cfg} (h2 : C.pers = C'.pers) (h3 : C.nt = C'.nt) (x : Operand) : resO C x = resO C' x := by
 cases x <;> simp only [resO, h2, h3]
theorem resOs_same {C C' : Cfg} (h2 : C.pers = C'.pers) (h3 : C.nt = C'.nt) : ∀ l : List Operand, resOs C l = resOs C' l
 | [] => rfl
 | x :: l => by simp only [resOs, zEq h2 h3 x, resOs_same h2 h3 l]
theorem resDst_same {C C' : Cfg} (h2 : C.pers = C'.pers) (h3 : C.nt = C'.nt) (x : Option Nat) : zB4 C x = zB4 C' x := by
 cases x <;> simp only [zB4, h2, h3]
theorem resDsts_same {C C' : Cfg} (h2 : C.pers = C'.pers) (h3 : C.nt = C'.nt) : ∀ l : List Nat, zCg C l = zCg C' l
 | [] => rfl
 | x :: l => by simp only [zCg, resDst_same h2 h3 (some x), resDsts_same h2 h3 l]
theorem resGuard_same {C C' : Cfg} (h2 : C.pers = C'.pers) (h3 : C.nt = C'.nt) (ops : Array Oper) (x : Option (Nat × Bool)) : zB0 C ops x = zB0 C' ops x := by
 cases x with
 | none => rfl
 | some p =>
   obtain ⟨j, want⟩ := p
   simp only [zB0]
   split
   ·rw [zEq h2 h3]
   ·rfl
theorem resOp1_same {C C' : Cfg} (h1 : C.P = C'.P) (h2 : C.pers = C'.pers) (h3 : C.nt = C'.nt) (ops : Array Oper) (o : Oper) : zC3 C ops o = zC3 C' ops o := by
 simp only [zC3, h1, resOs_same h2 h3, resDst_same h2 h3, resGuard_same h2 h3]
theorem zFs {C C' : Cfg} (h1 : C.P = C'.P) (h2 : C.pers = C'.pers) (h3 : C.nt = C'.nt) (ops : Array Oper) : ∀ l : List Nat, zBh C ops l = zBh C' ops l
 | [] => rfl
 | i :: l => by simp only [zBh, resOp1_same h1 h2 h3, zFs h1 h2 h3 ops l]
theorem zBa {C C' : Cfg} (h1 : C.P = C'.P) (h2 : C.pers = C'.pers) (h3 : C.nt = C'.nt) : ∀ c : Code, zAe C c = zAe C' c
 | .skip => rfl
 | .label _ => rfl
 | .region _ ops false => by simp only [zAe, zFs h1 h2 h3]
 | .region _ ops true => by simp only [zAe, zFs h1 h2 h3, h1]
 | .seq a b => by simp only [zAe, zBa h1 h2 h3 a, zBa h1 h2 h3 b]
 | .cond c a b => by simp only [zAe, zEq h2 h3 c, zBa h1 h2 h3 a, zBa h1 h2 h3 b]
 | .block id b => by simp only [zAe, zBa h1 h2 h3 b]
 | .loop b => by simp only [zAe, zBa h1 h2 h3 b]
 | .exit _ => rfl
 | .ret => rfl
 | .rangeFunc g ps a b => by simp only [zAe, zEq h2 h3 g, resDsts_same h2 h3, zBa h1 h2 h3 a, zBa h1 h2 h3 b]
 | .goto _ => rfl
 | .scope b => by simp only [zAe, zBa h1 h2 h3 b]
 | .refuse _ => rfl
theorem zFb {C C' : Cfg} {c : Code} {rc : RC} (h : zAe C' c = some rc) (h1 : C.P = C'.P) (h2 : C.pers = C'.pers) (h3 : C.nt = C'.nt) : zAe C c = some rc := (zBa h1 h2 h3 c).trans h
def Cfg.atB (C : Cfg) (b : World → Gh → Prop) (hp : Hp) : Cfg := { M := C.M.with b, pers := C.pers, nt := C.nt, n0 := hp.H.length, m0 := hp.tk.length }
theorem atB_M {C : Cfg} {b : World → Gh → Prop} {hp : Hp} : (C.atB b hp).M = C.M.with b := rfl
def mark (D : Nat) : Deferred := { target := .collected D, args := #[] }
def SimT (C : Cfg) (n m : Nat) (w0 : World) (B : Gh) (s : St) (a : Act) (w : World) : Prop :=
 ∃ w1 B1 hp1, ∃ Ds : List Nat, Inv w0 B hp1 w1 B1 ∧ Ds.Nodup ∧ (∀ D ∈ Ds, w1.heap[D]? = some (.deferred (some [])) ∧ D ∉ B1.own ∧ w0.heap.size ≤ D) ∧
  Sim { C with n0 := n, m0 := m, dfs := Ds.map mark } w1 B1 s a w
def LiftT (C : Cfg) (w0 : World) (B : Gh) (Q : Ex → Nat → Nat → St → Prop) : Exit → Act → World → Prop
 | .normal, a, w => ∃ n m s, SimT C n m w0 B s a w ∧ Q .normal n m s
 | .exit i, a, w => ∃ n m s, SimT C n m w0 B s a w ∧ Q (.exit i) n m s
 | .ret, a, w => ∃ n m s, SimT C n m w0 B s a w ∧ Q .ret n m s
 | .panic ch, _, w => ∃ w1 B1, PanPost C.M w1 B1 (.panicked ch) w
 | _, _, _ => False
structure TWp (C : Cfg) (n m : Nat) (rc : RC) (Q : Ex → Nat → Nat → St → Prop) (s : St) : Prop where
 run : ∀ c, zAe C c = some rc → ∀ w0 B, C.M.start w0 B → ∀ a w, SimT C n m w0 B s a w → c.wpIn Fence.wide 0 C.P (LiftT C w0 B Q) a w
section
variable {C : Cfg} {n m : Nat} {Q : Ex → Nat → Nat → St → Prop} {s : St}
theorem start_up (hbs : ∀ w g, C.M.base w g) {w0 : World} {B : Gh} (hA : C.M.start w0 B) {hp1 w1 B1} (hi : Inv w0 B hp1 w1 B1) : C.M.start w1 B1 :=
 ⟨C.M.up _ _ _ _ hA.1 hi.keeps hi.new, hbs _ _⟩
theorem twp_of {rc : RC} (hbs : ∀ w g, C.M.base w g) (h : ∀ ds, SWp { C with n0 := n, m0 := m, dfs := ds } rc (fun e s => Q e n m s) s) : TWp C n m rc Q s := by
 refine ⟨fun c hc w0 B hA a w hs => ?_⟩
 obtain ⟨w1, B1, hp1, Ds, h1, h2, h3, h4⟩ := hs
 have := (h (Ds.map mark)).run c (zFb hc rfl rfl rfl) w1 B1 (start_up hbs hA h1) a w h4 none
 refine wpIn_mono this fun e a' w' hl => ?_
 cases e <;> simp only [Lift, LiftT] at hl ⊢ <;> first | exact ⟨_, _, hl.2⟩ | (obtain ⟨s', g1, g2⟩ := hl; exact ⟨n, m, s', ⟨w1, B1, hp1, Ds, h1, h2, h3, g1⟩, g2⟩)
theorem twp_weak {rc : RC} {s1 : St} (h : ∀ ds, Weak { C with n0 := n, m0 := m, dfs := ds } s s1) (g : TWp C n m rc Q s1) : TWp C n m rc Q s :=
 ⟨fun c hc w0 B hA a w hs => g.run c hc w0 B hA a w (by
  obtain ⟨w1, B1, hp1, Ds, h1, h2, h3, h4⟩ := hs
  exact ⟨w1, B1, hp1, Ds, h1, h2, h3, h _ _ _ _ _ h4⟩)⟩
theorem zBv {x y : RC} (h : TWp C n m x (fun e n' m' s' => match e with | .normal => TWp C n' m' y Q s' | e => Q e n' m' s') s) : TWp C n m (.seq x y) Q s := by
 refine ⟨fun c hc w0 B hA a w hs => ?_⟩
 have hreg : ∀ id ops d, c = .region id ops d → _ := fun id ops d e => zA8 (e ▸ hc)
 cases c <;> (try simp only [zAe] at hc) <;> (try (cases hc; done))
 case seq ca cb =>
  cases ha : zAe C ca with
  | none => simp [ha] at hc
  | some p =>
    cases hb : zAe C cb with
    | none => simp [ha, hb] at hc
    | some q =>
      simp [ha, hb] at hc
      obtain ⟨rfl, rfl⟩ := hc
      refine wpIn_seq (wpIn_mono (h.run ca ha w0 B hA a w hs) fun e a' w' hl => ?_)
      cases e <;> simp only [LiftT, Exit.then] at hl ⊢ <;> try exact hl
      obtain ⟨n', m', s', h1, h2⟩ := hl
      exact h2.run cb hb w0 B hA a' w' h1
 case region _ ops d => exfalso; have := hreg _ _ _ rfl; simp at this
 all_goals exfalso; (repeat' split at hc) <;> simp_all
theorem twp_block {id : Nat} {x : RC} (h : TWp C n m x (fun e n' m' s' => match e with | .exit i => if i = id then Q .normal n' m' s' else Q (.exit i) n' m' s' | e => Q e n' m' s') s) : TWp C n m (.block id x) Q s := by
 refine ⟨fun c hc w0 B hA a w hs => ?_⟩
 have hreg : ∀ id ops d, c = .region id ops d → _ := fun id ops d e => zA8 (e ▸ hc)
 cases c <;> (try simp only [zAe] at hc) <;> (try (cases hc; done))
 case block i cb =>
  cases hb : zAe C cb with
  | none => simp [hb] at hc
  | some q =>
    simp [hb] at hc
    obtain ⟨rfl, rfl⟩ := hc
    refine wpIn_block (wpIn_mono (h.run cb hb w0 B hA a w hs) fun e a' w' hl => ?_)
    cases e <;> simp only [LiftT, Exit.inBlock] at hl ⊢ <;> try exact hl
    obtain ⟨n', m', s', h1, h2⟩ := hl
    split at h2
    ·rename_i e; rw [if_pos e]; exact ⟨n', m', s', h1, h2⟩
    ·rename_i e; rw [if_neg e]; exact ⟨n', m', s', h1, h2⟩
 case region _ ops d => exfalso; have := hreg _ _ _ rfl; simp at this
 all_goals exfalso; (repeat' split at hc) <;> simp_all
def binds : List Dst → List D → St → St
 | p :: ps, d :: ds, s => binds ps ds (s.put p d)
 | _, _, s => s
theorem binds_rel {w : World} {G : Gh} : ∀ (pl : List Nat) (ps : List Dst) (ds : List D) (vs : List Value) (s : St) (a : Act), zCg C pl = some ps → RelL w G ds vs → ds.length = ps.length →
 (∀ t, Rel w G (s.slot C.pers t) (a.tmps.getD t Go.undef)) → a.tmps.size = C.nt → s.env.length = C.pers.length →
 (∀ t, Rel w G ((binds ps ds s).slot C.pers t) (((pl.zip vs).foldl (fun (tm : Array Value) (p : Nat × Value) => tm.setIfInBounds p.1 p.2) a.tmps).getD t Go.undef)) ∧
  ((pl.zip vs).foldl (fun (tm : Array Value) (p : Nat × Value) => tm.setIfInBounds p.1 p.2) a.tmps).size = C.nt ∧ (binds ps ds s).env.length = C.pers.length ∧ (binds ps ds s).hp = s.hp
 | [], ps, ds, vs, s, a, hr, hv, hl, h1, h2, h3 => by
   simp [zCg] at hr; subst hr
   simp at hl; subst hl
   exact ⟨h1, h2, h3, rfl⟩
 | t :: pl, ps, ds, vs, s, a, hr, hv, hl, h1, h2, h3 => by
   simp only [zCg] at hr
   cases hp : zB4 C (some t) with
   | none => simp [hp] at hr
   | some p =>
     cases hq : zCg C pl with
     | none => simp [hp, hq] at hr
     | some qs =>
       simp [hp, hq] at hr; subst hr
       cases ds with
       | nil => simp at hl
       | cons d ds =>
         obtain ⟨v, vs, rfl, hv1, hv2⟩ := hv.inv
         have key := put_rel (a := a) h1 h2 h3 hp hv1
         obtain ⟨g1, g2, g3, g4⟩ := binds_rel pl qs ds vs (s.put p d) (a.put (some t) v) hq hv2 (by simpa using hl) key (by rw [zB8]; exact h2) (by rw [zBg]; exact h3)
         simp only [binds, List.zip_cons_cons, List.foldl_cons]
         exact ⟨g1, g2, g3, by rw [g4, zDh]⟩
theorem zFj : ∀ (pl : List Nat) (ps : List Dst), zCg C pl = some ps → ps.length = pl.length
 | [], ps, h => by simp [zCg] at h; subst h; rfl
 | t :: pl, ps, h => by
   simp only [zCg] at h
   cases hp : zB4 C (some t) with
   | none => simp [hp] at h
   | some p =>
     cases hq : zCg C pl with
     | none => simp [hp, hq] at h
     | some qs => simp [hp, hq] at h; subst h; simp [zFj pl qs hq]
theorem leaves_marks {P : Program} {fn : Func} {tmps : Array Value} {R : Ending → World → Prop} (J : World → Prop) (hend : ∀ w, J w → LeavesIn Fence.wide 0 P fn tmps R [] .returning w) :
 ∀ (Ds : List Nat) (w : World), Ds.Nodup → (∀ D ∈ Ds, w.heap[D]? = some (.deferred (some []))) → (∀ w w' D, D ∈ Ds → J w → Turn w w' D → J w') → J w → LeavesInM Fence.wide 0 P fn tmps R (Ds.map mark) .returning w
 | [], w, _, _, _, h => hend w h
 | D :: Ds, w, hn, hk, hJ, h => by
   obtain ⟨hn1, hn2⟩ := List.nodup_cons.1 hn
   have h0 := hk D (List.mem_cons_self ..)
   have t := Turn.put (o' := .deferred none) h0 rfl rfl
   refine ⟨by simp, .inl ⟨D, _, rfl, run_takeDeferred h0, leaves_marks J hend Ds _ hn2 (fun E hE => ?_) (fun w w' E hE => hJ w w' E (List.mem_cons_of_mem _ hE)) (hJ _ _ D (List.mem_cons_self ..) h t)⟩⟩
   rw [t.block E (fun e => hn1 (e ▸ hE))]
   exact hk E (List.mem_cons_of_mem _ hE)
theorem zEy {C : Cfg} {f : FuncId} {fn : Func} {c : Code} {rc : RC} {rs : List RR} (hf : C.P.funcs[f]? = some fn) (hb : fn.body = some c) (hnt : fn.ntmps = C.nt) (hrc : zAe C c = some rc) (hrs : resRs C fn.results.toList = some rs)
 {args : List D} {hp : Hp} {R : D → Hp → Prop} (hname : (fn.name == "runtime.NumGoroutine") = false) (hpl : C.pers.take args.length = List.range args.length) (hlt : args.length ≤ C.nt) (hn0 : C.n0 = hp.H.length) (hm0 : C.m0 = hp.tk.length)
 (h : TWp C hp.H.length hp.tk.length rc (fun e n m s => (match e with | .exit _ => False | _ => True) ∧ ∃ s1, (∀ ds, Weak { C with n0 := n, m0 := m, dfs := ds } s s1) ∧ rrsWp rs s1 fun ds => R (zBd ds) s1.hp) (St.init C args hp))
 (hbs : ∀ w g, C.M.base w g := by exact fun _ _ => trivial) (hpan : ∀ d hp, ¬ C.M.pan d hp := by exact fun _ _ h => h) : Eff C.M f args hp R := by
 refine ⟨⟨fn, hf, by simp [hb], hname⟩, fun w g xs hA hH hargs => ?_⟩
 refine (callsIn_wide (n := 0)).1 (callsIn_of_wp_marks (F := Fence.wide) (n := 0) hf hb trivial ?_ rfl)
 have hsim := init_sim (C := { C with n0 := hp.H.length, m0 := hp.tk.length, dfs := [] }) hnt hpl hlt rfl rfl rfl hH hargs
 refine wpIn_mono (h.run c hrc w g ⟨hA, hbs _ _⟩ _ w ⟨w, g, hp, [], Inv.refl' hH, List.nodup_nil, by simp, hsim⟩) fun e a' w' hl => ?_
 have fin : ∀ n m s, SimT C n m w g s a' w' → (∃ s1, (∀ ds, Weak { C with n0 := n, m0 := m, dfs := ds } s s1) ∧ rrsWp rs s1 fun ds => R (zBd ds) s1.hp) →
  LeavesInM Fence.wide 0 C.P fn a'.tmps (Post w g R) a'.defers .returning w' := by
  intro n m s hs hrr
  obtain ⟨s1, hw, hrr⟩ := hrr
  obtain ⟨w1, B1, hp1, Ds, h1, h2, h3, h4⟩ := hs
  obtain ⟨G, g0, gb, g1, g2, g3, g4⟩ := hw _ _ _ _ _ h4
  rw [g2]
  refine leaves_marks (fun w2 => Inv w g s1.hp w2 G ∧ ∀ t, Rel w2 G (s1.slot C.pers t) (a'.tmps.getD t Go.undef)) ?_ Ds w' h2 (fun D hD => ?_) ?_ ⟨h1.join g0, g4⟩
  ·rintro w2 ⟨j1, j2⟩
   obtain ⟨ds, v, k1, k4, k5⟩ := results_run (a := a') (fn := fn) j1 j2 hrs hrr
   exact ⟨v, k5, v, _, _, G, rfl, k1, j1, k4⟩
  ·obtain ⟨d1, d2, d3⟩ := h3 D hD
   rw [g0.keeps.block D (Array.getElem?_eq_some_iff.1 d1).1 d2]; exact d1
  ·rintro w2 w3 D hD ⟨j1, j2⟩ t
   obtain ⟨d1, d2, d3⟩ := h3 D hD
   have hG : D ∉ G.own := fun hm => by
    rcases g0.new D hm with q | q
    ·exact d2 q
    ·have := (Array.getElem?_eq_some_iff.1 d1).1; omega
   exact ⟨t.inv hG d3 j1, fun u => Rel.evo _ (t.evo G) (j2 u)⟩
 cases e <;> simp only [LiftT, bodyPostM] at hl ⊢
 case panic => obtain ⟨_, _, _, _, _, _, _, k, _⟩ := hl; exact absurd k (hpan _ _)
 ·obtain ⟨n, m, s, h1, _, h2⟩ := hl; exact fin n m s h1 h2
 ·obtain ⟨n, m, s, h1, h3, h2⟩ := hl; exact h3.elim
 ·obtain ⟨n, m, s, h1, _, h2⟩ := hl; exact fin n m s h1 h2
end
theorem weak_newC {C : Cfg} {s : St} (b off k : Nat) (hk : 0 < k) {cs : List D} (hb : s.hp.H[b]? = some (.cells cs)) (hc : cs[off]? = some (.lit (.slice none 0 0))) :
 Weak C s ⟨s.env, s.scr, ⟨s.hp.H.set b (.cells (cs.set off (.slice [] (.tok s.hp.tk.length)))), s.hp.tk ++ [.per k 0]⟩⟩ := by
 intro w0 B a w h
 obtain ⟨G, g0, gb, g1, g2, g3, g4⟩ := h
 obtain ⟨q1, q2⟩ := g0.tokFull (len := 0) (a := none) hk (.per k 0) (.inl rfl)
 obtain ⟨n, hn⟩ : ∃ n, G.r[b]? = some n := by
  have hl := zAd hb
  rw [g0.heap.len] at hl
  exact ⟨_, List.getElem?_eq_getElem hl⟩
 obtain ⟨xs, e, k1, k2, k3⟩ := g0.heap.blk b _ n hb hn
 obtain ⟨x, hx, hrx⟩ := k2.get hc
 simp only [Rel] at hrx
 obtain ⟨rfl, _⟩ := hrx
 have hgs : Rel w (G.tok ⟨none, none, 0, k, 0⟩) (.slice [] (.tok s.hp.tk.length)) (.slice none 0 0) := by
  simp only [Rel]
  rw [g0.heap.lent]
  refine ⟨⟨0, 0, none⟩, 0, k, [], .inr ⟨by trivial, by simp, rfl⟩, by simp, RelL.nil, by simp, ⟨fun _ => rfl, by simp [flat]⟩, ?_⟩
  exact ⟨_, zDp _ _, rfl, by simp, fun _ => by rfl⟩
 have hset : xs.set off (.slice none 0 0) = xs := by
  apply List.ext_getElem?
  intro i
  rw [List.getElem?_set]
  split
  ·rename_i e; subst e; rw [hx]; split <;> simp_all [zAd hx]
  ·rfl
 obtain ⟨u1, u2⟩ := q1.write (w' := w) b n hn ⟨_, hb, by simp⟩ (.cells (cs.set off (.slice [] (.tok s.hp.tk.length))))
  (fun w1 g1 he => by
   rw [k1]
   refine ⟨xs, e, rfl, ?_, k3⟩
   have := (RelL.evo _ he (RelL.evo _ q2 k2)).set off (Rel.evo _ he hgs)
   rw [hset] at this
   exact this)
  (fun _ _ => rfl) rfl rfl rfl rfl
 refine ⟨_, u1, gb, g1, g2, g3, fun t => ?_⟩
 have h4 := g4 t
 unfold St.slot at *
 split
 ·rename_i j hj
  rw [hj] at h4
  exact Rel.evo _ u2 (Rel.evo _ q2 h4)
 ·rename_i hj
  rw [hj] at h4
  exact Rel.evo _ u2 (Rel.evo _ q2 h4)
section
variable {C : Cfg} {n m : Nat} {Q : Ex → Nat → Nat → St → Prop} {s : St}
theorem zBw {ros : List RO} (hbs : ∀ w g, C.M.base w g) (h : ∀ ds, SWp { C with n0 := n, m0 := m, dfs := ds } (.reg ros) (fun e s => Q e n m s) s) : TWp C n m (.reg ros) Q s := twp_of hbs h
theorem zBs {g : Opd} {x y : RC} (hbs : ∀ w g, C.M.base w g) (h : ∀ ds, SWp { C with n0 := n, m0 := m, dfs := ds } (.cond g x y) (fun e s => Q e n m s) s) : TWp C n m (.cond g x y) Q s := twp_of hbs h
theorem twp_ret (hbs : ∀ w g, C.M.base w g) (h : Q .ret n m s) : TWp C n m .ret Q s := twp_of hbs fun _ => swp_ret h
end
end GoV
end
section
namespace GoV
open Go Go.RowKit Go.ChangeShapes Go.Deep
abbrev G0 (w : World) : Gh := ⟨[], [], fun b _ => b < w.heap.size⟩
def Opens (P : Program) (w : World) (n : Nat) (t : TypeId) {α : Type} (f : α → List D) (ok : α → Prop) : Prop :=
 ∀ (H : Type) (enc : TypeId × Value → H) (cs : List Value) (x : DataW H × List MemPlace), DataW.trod enc P w 0 (fun _ => true) true n t cs = some x →
  ∃ a, ok a ∧ RelL w (G0 w) (f a) cs ∧ ∀ y ∈ cs, oneC y
def pk (ds : List D) : D := match ds with | [d] => d | ds => .agg ds
section
variable {P : Program} {w : World} {n : Nat} {t e : TypeId}
theorem Opens.imp {α β : Type} {f : α → List D} {ok : α → Prop} {f' : β → List D} {ok' : β → Prop} (h : Opens P w n t f ok) (c : α → β) (h1 : ∀ a, ok a → f' (c a) = f a) (h2 : ∀ a, ok a → ok' (c a)) : Opens P w n t f' ok' := by
 intro H enc cs x hx
 obtain ⟨a, k1, k2, k3⟩ := h H enc cs x hx
 exact ⟨c a, h2 a k1, by rw [h1 a k1]; exact k2, k3⟩
theorem opens_int {k : IntKind} (ht : P.underlying t = some (.int k)) : Opens P w n t (fun z : Int => [.int k z]) (fun z => (Lit.int k z).wf = true) := by
 intro H enc cs x hx
 obtain ⟨z, rfl, _, hw⟩ := DataW.trod_int ht hx
 exact ⟨z, hw, RelL.one (by simp [Rel]), by simp [oneC, Value.oneCell']⟩
theorem zGf (ht : P.underlying t = some (.int .i64)) : Opens P w n t (fun z : Int => [.int .i64 z]) (fun z => -9223372036854775808 ≤ z ∧ z ≤ 9223372036854775807) :=
 (opens_int ht).imp id (fun _ _ => rfl) (fun _ h => int_bounds h)
theorem rel_pk {ds : List D} {cs : List Value} (h : RelL w (G0 w) ds cs) (ho : ∀ y ∈ cs, oneC y) : ∃ v, Rel w (G0 w) (pk ds) v ∧ v.cells.toList = cs := by
 unfold pk
 split
 ·rename_i d
  obtain ⟨y, ys, rfl, h1, h2⟩ := h.inv
  rw [h2.inv_nil] at ho ⊢
  exact ⟨y, h1, by rw [zE4 (ho y (by simp))]⟩
 ·exact ⟨.agg cs.toArray, by simp only [Rel]; exact ⟨cs, rfl, h, ho⟩, by simp [Value.cells]⟩
theorem list_choose {α : Type} {q : Nat → α → Prop} : ∀ n, (∀ i, i < n → ∃ a, q i a) → ∃ l : List α, l.length = n ∧ ∀ i (h : i < l.length), q i l[i]
 | 0, _ => ⟨[], rfl, by simp⟩
 | n + 1, h => by
   obtain ⟨l, h1, h2⟩ := list_choose n fun i hi => h i (by omega)
   obtain ⟨a, ha⟩ := h n (by omega)
   refine ⟨l ++ [a], by simp [h1], fun i hi => ?_⟩
   by_cases e : i < l.length
   ·rw [List.getElem_append_left e]; exact h2 i e
   ·have : i = l.length := by simp at hi; omega
    subst this
    simp; rw [h1]; exact ha
theorem flat_get {k : Nat} (hk : 0 < k) : ∀ {xs : List Value}, (∀ y ∈ xs, y.cells.size = k) → ∀ {j : Nat} {y : Value}, (flat xs)[j]? = some y → ∃ x, xs[j / k]? = some x ∧ x.cells.toList[j % k]? = some y
 | [], _, j, y, h => by simp [flat] at h
 | x :: xs, hs, j, y, h => by
   have hx : x.cells.toList.length = k := by simpa using hs x (by simp)
   simp only [flat] at h
   by_cases e : j < k
   ·rw [List.getElem?_append_left (by omega)] at h
    exact ⟨x, by simp [Nat.div_eq_of_lt e], by rw [Nat.mod_eq_of_lt e]; exact h⟩
   ·rw [List.getElem?_append_right (by omega), hx] at h
    obtain ⟨x', h1, h2⟩ := flat_get hk (fun y hy => hs y (by simp [hy])) h
    refine ⟨x', ?_, by rwa [Nat.mod_eq_sub_mod (by omega)]⟩
    rw [Nat.div_eq_sub_div hk (by omega)]
    simpa using h1
theorem arg_cell {α : Type} {f : α → List D} {ok : α → Prop} {H : Type} {enc : TypeId × Value → H} {v : Value} {d : DataW H} {ps : List MemPlace} {b : Nat} {desc : TypeDesc} (ht : P.underlying t = some desc) (hd : zBi desc = false) (hval : Value.okWide P w .any b t v)
 (h : DataW.Trod enc P w 0 (fun _ => true) true t v d ps) (hO : ∀ n, Opens P w n t f ok) : ∃ a, ok a ∧ RelL w (G0 w) (f a) [v] := by
 obtain ⟨fuel, hx⟩ := h
 obtain ⟨a, k1, k2, _⟩ := hO fuel H enc _ _ hx
 refine ⟨a, k1, ?_⟩
 have hv : oneC v := by
  cases v with
  | agg cs =>
    exfalso
    unfold Value.okWide at hval
    rw [ht] at hval
    cases desc <;> simp_all [zBi, Cell.okWide, Cell.ok]
  | tuple cs =>
    exfalso
    unfold Value.okWide at hval
    rw [ht] at hval
    cases desc <;> simp_all [zBi, Cell.okWide, Cell.ok]
  | _ => simp [oneC, Value.oneCell']
 rw [zE4 hv] at k2
 exact k2
theorem relL_app {ds es : List D} {xs ys : List Value} (h : RelL w (G0 w) ds xs) (h2 : RelL w (G0 w) es ys) : RelL w (G0 w) (ds ++ es) (xs ++ ys) := h.append h2
end
end GoV
end
section
set_option maxHeartbeats 1000000
namespace GoV
open Go Go.RowKit
theorem flat_strs : ∀ ss : List ByteArray, flat (ss.map Value.string) = ss.map Value.string
 | [] => rfl
 | s :: ss => by simp [flat, Value.cells, flat_strs ss]
theorem laid_var {P : Program} {W : World} : ∀ {l : List (String × DataW Unit)} {ps : List MemPlace}, DataW.LaidVars P W l ps → ∀ {name : String} {d : DataW Unit}, (name, d) ∈ l → ∃ g t cs fuel p, P.globalNamed name = some g ∧ (P.globals[g]?).map (·.type) = some t ∧ W.var? P name = some cs ∧
 DataW.trod (fun _ => ()) P W 0 (fun _ => true) false fuel t cs.toList = some (d, p)
 | [], _, _, _, _, h => by cases h
 | x :: r, _, hl, name, d, h => by
   obtain ⟨g, t, cs, fuel, p, q, h1, h2, h3, h4, h5, _⟩ := hl
   rcases List.mem_cons.1 h with h | h
   ·subst h; exact ⟨g, t, cs, fuel, p, h1, h2, h3, h4⟩
   ·exact laid_var h5 h
theorem heap_of_var {P : Program} {W : World} {name : String} {g : Nat} {cs : Array Value} (hg : P.globalNamed name = some g) (h : W.var? P name = some cs) : ∃ e fr, W.heap[g]? = some (.cells cs e fr) := by
 unfold World.var? at h
 rw [hg] at h
 simp only [Option.bind_some] at h
 split at h
 ·rename_i cs e fr hh; simp at h; subst h; exact ⟨e, fr, hh⟩
 ·cases h
theorem var_tab {P : Program} {W : World} {l : List (String × DataW Unit)} {name : String} {k : IntKind} {zs : List Int} {ps : List MemPlace} {g : Nat} {t e : TypeId} {n : Nat}
 (hl : DataW.LaidVars P W l ps) (hm : (name, Lib.tabData k zs) ∈ l) (hg : P.globalNamed name = some g) (hty : (P.globals[g]?).map (·.type) = some t) (ht : P.underlying t = some (.array n e)) (he : P.underlying e = some (.int k)) (hce : P.cellsOf e = 1) (hct : P.cellsOf t = n) :
 ∃ cs x fr, cs = (zs.map fun z => Value.int k z).toArray ∧ W.heap[g]? = some (.cells cs x fr) := by
 obtain ⟨g', t', cs, fuel, p, hg', ht', hvar, hd⟩ := laid_var hl hm
 obtain rfl := Option.some.inj (hg.symm.trans hg')
 obtain rfl := Option.some.inj (hty.symm.trans ht')
 obtain ⟨x, fr, hh⟩ := heap_of_var hg hvar
 exact ⟨cs, x, fr, by rw [← Lib.cells_of_tab ht he hce hct hd], hh⟩
theorem var_err {P : Program} {W : World} {l : List (String × DataW Unit)} {name nm : String} {d : DataW Unit} {ps : List MemPlace} {g : Nat} {t : TypeId} {ms : Array (String × TypeId)}
 (hl : DataW.LaidVars P W l ps) (hm : (name, .iface nm d) ∈ l) (hg : P.globalNamed name = some g) (hty : (P.globals[g]?).map (·.type) = some t) (ht : P.underlying t = some (.interface ms)) :
 ∃ cs x fr, (∃ v, (v = .nilIface ∨ ∃ te pe, v = .iface te pe) ∧ cs = #[v]) ∧ W.heap[g]? = some (.cells cs x fr) := by
 obtain ⟨g', t', cs, fuel, p, hg', ht', hvar, hd⟩ := laid_var hl hm
 obtain rfl := Option.some.inj (hg.symm.trans hg')
 obtain rfl := Option.some.inj (hty.symm.trans ht')
 obtain ⟨x, fr, hh⟩ := heap_of_var hg hvar
 refine ⟨cs, x, fr, ?_, hh⟩
 cases fuel with
 | zero => simp [DataW.trod] at hd
 | succ n =>
   unfold DataW.trod at hd
   rw [ht] at hd
   split at hd <;> first
    | (simp at hd; done)
    | (rename_i hc; simp_all; done)
    | (rename_i u v _ hc
       have : cs = #[.iface u v] := by
        cases cs with
        | mk c => simp at hc; rw [hc]
       exact ⟨_, .inr ⟨u, v, rfl⟩, this⟩)
    | (rename_i u v hc _
       have : cs = #[.iface u v] := by
        cases cs with
        | mk c => simp at hc; rw [hc]
       exact ⟨_, .inr ⟨u, v, rfl⟩, this⟩)
theorem var_int {P : Program} {W : World} {g : Nat} {t : TypeId} {zero : Array Value} {k : IntKind} (h : W.ShapedOpen P) (hg : g < P.globals.size)
 (h0 : ((begin P (fun _ _ => 0) default).world.heap[g]?).bind Obj.row? = some (zero, t)) (hz : zero.size = 1) (hb : P.buildable t = true) (hc : P.cellTypes P.depth t = some [t]) (hu : P.underlying t = some (.int k)) :
 ∃ cs x fr, (∃ v, (∃ m, v = .int k m) ∧ cs = #[v]) ∧ W.heap[g]? = some (.cells cs x fr) := by
 obtain ⟨m, hm⟩ := Proofs.cell_of_shapedOpen_int h hg h0 hz hb hc hu
 obtain ⟨cs, hh, hs, _⟩ := h.1 g zero t hg h0
 refine ⟨cs, t, _, ⟨.int k m, ⟨m, rfl⟩, ?_⟩, hh⟩
 rw [hz] at hs
 unfold World.cell? at hm
 rw [hh] at hm
 simp at hm
 obtain ⟨c⟩ := cs
 match c, hs with
 | [v], _ => simp at hm; rw [hm]
end GoV
end
section
set_option linter.unusedSimpArgs false
set_option linter.unusedVariables false
set_option maxHeartbeats 1000000
namespace GoV
open Go
section
variable {C : Cfg} {w0 : World} {B : Gh}
theorem draw_soundX {ro : Option Nat} {Q : Exit → Act → World → Prop} (hA : C.M.start w0 B ∧ PQ C w0 B Q) {ops : Array Oper} {m : Nat} {ros : List RO} {K : St → Prop} (hB : drawOk ops m = true) (hm : m ≤ ops.size) (hr : zBh C ops (List.range' 0 ops.size) = some ros)
 (hQ : ∀ s a w, K s → Sim C w0 B s a w → Q .normal a w) {s : St} (_hl : s.env.length = C.pers.length)
 {ds : Nat → D} {hps : Nat → Hp} {fl : Nat → Bool} {s1 : St} (hk1 : opsWp C.M (ros.drop m) K s1) (hpm : hps m = s1.hp) (hl1 : s1.env.length = C.pers.length)
 (hfq : ∀ i, i < m → fl i = true → hps (i + 1) = hps i)
 (hst : ∀ i, i < m → ∃ o, ops[i]? = some o ∧ StepQ C ops (hps i) (hps (i + 1)) (sig ops (s.slot C.pers) ds (fun _ => true) i) o (ds i))
 (hX : ∀ i, i < m → (fl i = true ∧ ∃ o, ops[i]? = some o ∧ ∀ hp2, StepQ C ops hp2 hp2 (sig ops (s.slot C.pers) ds (fun _ => true) i) o (ds i)) ∨ ∀ j, j < m → j ≠ i → fl j = true)
 (hend : sig ops (s.slot C.pers) ds (fun _ => true) m = s1.slot C.pers) :
 ∀ (fuel : Nat) (listed : Array Bool) (a : Act) (w : World), listed.size = ops.size → unl listed.toList ≤ fuel →
  (∀ j oj, ops[j]? = some oj → listed.getD j false = true → ∀ e ∈ oj.after, Region.binds .any e = true → listed.getD e.on false = true) →
  (((∀ j, listed.getD j false = true → j < m) ∧ SimF C w0 B (sig ops (s.slot C.pers) ds (fun j => listed.getD j false) m) (hpE hps fl (fun j => listed.getD j false) m) a w) ∨
    ∃ i s', m ≤ i ∧ (∀ j, j < ops.size → (listed.getD j false = true ↔ j < i)) ∧ Sim C w0 B s' a w ∧ opsWp C.M (ros.drop i) K s') →
  wpAnyIn (FR ro) 0 C.P .any ops Q fuel listed a w := by
 have hros : ros.length = ops.size := by rw [zCf _ _ hr]; simp
 have hsub : ∀ (listed : Array Bool), (∀ j oj, ops[j]? = some oj → listed.getD j false = true → ∀ e ∈ oj.after, Region.binds .any e = true → listed.getD e.on false = true) →
  ∀ j oj, ops[j]? = some oj → (∀ e ∈ oj.after, Region.binds .any e = true → listed.getD e.on false = true) → ∀ i ∈ (zA7 ops.toList).getD j [], listed.getD i false = true := by
  intro listed hcl j
  induction j using Nat.strongRecOn with
  | _ j ih =>
    intro oj hj ha i hi
    obtain ⟨e, he, hbd, h1⟩ := zFw (by simpa using hj) hi
    rcases h1 with h1 | h1
    ·rw [h1]; exact ha e he hbd
    ·have hlt := (zA6 hB hj).1 e he hbd
     have hjs : j < ops.size := (Array.getElem?_eq_some_iff.1 hj).1
     have hoe : ops[e.on]? = some ops[e.on] := Array.getElem?_eq_getElem (by omega)
     exact ih e.on hlt _ hoe (hcl e.on _ hoe (ha e he hbd)) i h1
 have conv : ∀ (listed : Array Bool) (a : Act) (w : World), (∀ j, listed.getD j false = true → j < m) → (∀ j, j < m → listed.getD j false = true) →
  SimF C w0 B (sig ops (s.slot C.pers) ds (fun j => listed.getD j false) m) (hpE hps fl (fun j => listed.getD j false) m) a w → Sim C w0 B s1 a w := by
  intro listed a w h1 h2 hs
  have e : sig ops (s.slot C.pers) ds (fun j => listed.getD j false) m = s1.slot C.pers := by
   rw [← hend]; funext t
   exact zEl m fun j hj _ => h2 j hj
  obtain ⟨G, g1, gb, g2, g3, g4⟩ := hs
  rw [hpE_all m (fun j hj _ => h2 j hj) hfq] at g1
  exact ⟨G, by rw [← hpm]; exact g1, gb, g2, g3, hl1, by rw [← e]; exact g4⟩
 have fin : ∀ (listed : Array Bool) (a : Act) (w : World), (∀ j, j < ops.size → listed.getD j false = true) →
  (((∀ j, listed.getD j false = true → j < m) ∧ SimF C w0 B (sig ops (s.slot C.pers) ds (fun j => listed.getD j false) m) (hpE hps fl (fun j => listed.getD j false) m) a w) ∨
    ∃ i s', m ≤ i ∧ (∀ j, j < ops.size → (listed.getD j false = true ↔ j < i)) ∧ Sim C w0 B s' a w ∧ opsWp C.M (ros.drop i) K s') → Q .normal a w := by
  intro listed a w hall h
  rcases h with ⟨h1, h2⟩ | ⟨i, s', h1, h2, h3, h4⟩
  ·have hs1 := conv listed a w h1 (fun j hj => hall j (by omega)) h2
   have hmn : ops.size ≤ m := by
    rcases Nat.eq_zero_or_pos ops.size with g | g
    ·omega
    ·have := h1 (ops.size - 1) (hall _ (by omega)); omega
   rw [List.drop_eq_nil_of_le (by omega)] at hk1
   exact hQ s1 a w hk1 hs1
  ·have hin : ops.size ≤ i := by
    rcases Nat.eq_zero_or_pos ops.size with g | g
    ·omega
    ·have := (h2 (ops.size - 1) (by omega)).1 (hall _ (by omega)); omega
   rw [List.drop_eq_nil_of_le (by omega)] at h4
   exact hQ s' a w h4 h3
 have least : ∀ (listed : Array Bool), listed.size = ops.size → (∀ j oj, ops[j]? = some oj → listed.getD j false = true → ∀ e ∈ oj.after, Region.binds .any e = true → listed.getD e.on false = true) →
  Region.ready .any ops listed = [] → ∀ j, j < ops.size → listed.getD j false = true := by
  intro listed hsz hcl hr0 j
  induction j using Nat.strongRecOn with
  | _ j ih =>
    intro hj
    cases hb : listed.getD j false with
    | true => rfl
    | false =>
      exfalso
      have hoj : ops[j]? = some ops[j] := Array.getElem?_eq_getElem hj
      have : j ∈ Region.ready .any ops listed := by
       rw [mem_ready]
       refine ⟨?_, ops[j], hoj, fun e he hbd => ?_⟩
       ·have hlt : j < listed.size := by omega
        simp [hlt] at hb ⊢; exact hb
       ·have := (zA6 hB hoj).1 e he hbd
        exact ih e.on this (by omega)
      rw [hr0] at this; cases this
 intro fuel
 induction fuel with
 | zero =>
   intro listed a w hsz hu hcl h
   have hall : ∀ j, j < ops.size → listed.getD j false = true := by
    intro j hj
    have hlt : j < listed.size := by omega
    have := unl_zero listed.toList (by omega) j (by simpa using hlt)
    simp [hlt] at this ⊢; exact this
   refine ⟨?_, fin listed a w hall h⟩
   cases hr0 : Region.ready .any ops listed with
   | nil => rfl
   | cons i l =>
     have : i ∈ Region.ready .any ops listed := by rw [hr0]; simp
     obtain ⟨h1, o, ho, _⟩ := mem_ready.1 this
     have hlt : i < ops.size := (Array.getElem?_eq_some_iff.1 ho).1
     have h2 := hall i hlt
     have hlt2 : i < listed.size := by omega
     simp [hlt2] at h1 h2; rw [h1] at h2; cases h2
 | succ fuel ih =>
   intro listed a w hsz hu hcl h
   refine ⟨fun hr0 => fin listed a w (least listed hsz hcl hr0) h, fun i hi => ?_⟩
   obtain ⟨hun, o, ho, hdeps⟩ := mem_ready.1 hi
   have hlt : i < ops.size := (Array.getElem?_eq_some_iff.1 ho).1
   have hlt2 : i < listed.size := by omega
   have hunf : listed.getD i false = false := by simp [hlt2] at hun ⊢; exact hun
   have hdeps' : ∀ e ∈ o.after, Region.binds .any e = true → listed.getD e.on false = true := hdeps
   have hbef := hsub listed hcl i o ho hdeps'
   have hcl' : ∀ j oj, ops[j]? = some oj → (listed.setIfInBounds i true).getD j false = true → ∀ e ∈ oj.after, Region.binds .any e = true → (listed.setIfInBounds i true).getD e.on false = true := by
    intro j oj hj hlj e he hbd
    rw [zBq hlt2] at hlj ⊢
    simp only [Bool.or_eq_true, beq_iff_eq] at hlj ⊢
    rcases hlj with g | g
    ·exact .inl (hcl j oj hj g e he hbd)
    ·subst g
     rw [ho] at hj; cases hj
     exact .inl (hdeps' e he hbd)
   have hu' : unl (listed.setIfInBounds i true).toList ≤ fuel := by
    have := unl_set listed.toList i (by simp [hlt2] at hunf ⊢; exact hunf)
    simp only [Array.toList_setIfInBounds]; omega
   have hafter : m ≤ i → ∀ j, j < ops.size → (listed.getD j false = true ↔ j < i) := by
    intro hmi j hj
    constructor
    ·intro hlj
     rcases Nat.lt_trichotomy j i with g | g | g
     ·exact g
     ·subst g; rw [hunf] at hlj; cases hlj
     ·exfalso
      have hoj : ops[j]? = some ops[j] := Array.getElem?_eq_getElem hj
      obtain ⟨oi, hoi, q⟩ := (zA6 hB hoj).2 i g
      rcases q with q | q
      ·have := hsub listed hcl j _ hoj (hcl j _ hoj hlj) i q
       rw [hunf] at this; cases this
      ·omega
    ·intro hji
     obtain ⟨oi, hoi, q⟩ := (zA6 hB ho).2 j hji
     rcases q with q | q
     ·exact hbef j q
     ·omega
   unfold wpOpIn
   rw [ho]
   by_cases him : i < m
   ·
    rcases h with ⟨h1, h2⟩ | ⟨i', s', h1, h2, h3, h4⟩
    ·obtain ⟨o', ho', hq⟩ := hst i him
     rw [ho] at ho'; cases ho'
     have ords : ∀ j, j < m → j ≠ i → ∀ t, t ∈ zCw ops o → dstO ops j = some t → (listed.getD j false = true ↔ j < i) := by
      intro j hj hji t ht hd
      have hjs : j < ops.size := by omega
      have hoj : ops[j]? = some ops[j] := Array.getElem?_eq_getElem hjs
      have hdj : ops[j].dst = some t := by simpa [dstO, hoj] using hd
      constructor
      ·intro hlj
       rcases Nat.lt_or_ge j i with g | g
       ·exact g
       ·exfalso
        obtain ⟨oi, hoi, q⟩ := (zA6 hB hoj).2 i (by omega)
        rw [ho] at hoi; cases hoi
        rcases q with q | q
        ·have := hsub listed hcl j _ hoj (hcl j _ hoj hlj) i q
         rw [hunf] at this; cases this
        ·exact (zFf q.2).2 t hdj ht
      ·intro g
       obtain ⟨oi, hoi, q⟩ := (zA6 hB ho).2 j g
       rw [hoj] at hoi; cases hoi
       rcases q with q | q
       ·exact hbef j q
       ·exact absurd ht ((zFf q.2).1 t hdj)
     have hlook : ∀ t ∈ o.looksAt ops, sig ops (s.slot C.pers) ds (fun _ => true) i t = sig ops (s.slot C.pers) ds (fun j => listed.getD j false) m t := by
      intro t ht
      have ht' : t ∈ zCw ops o := by simp [zCw, ht]
      have e1 : sig ops (s.slot C.pers) ds (fun j => listed.getD j false) m t = sig ops (s.slot C.pers) ds (fun j => listed.getD j false) i t := by
       refine zD4 m (by omega) fun j g1 g2 g3 hd => ?_
       by_cases hji : j = i
       ·subst hji; rw [hunf] at g3; cases g3
       ·have := (ords j g2 hji t ht' hd).1 g3; omega
      rw [e1]
      exact zEl i fun j hj hd => ((ords j (by omega) (by omega) t ht' hd).2 hj).symm
     obtain ⟨o', x, r1, r2, r3⟩ := zC2 _ _ i ros hr hlt
     rw [Nat.zero_add, ho] at r1; cases r1
     have hx : ros[i]? = some x := by
      have := List.getElem?_drop (xs := ros) (i := i) (j := 0)
      rw [r3] at this; simpa using this.symm
     have hL : ∀ j, (listed.setIfInBounds i true).getD j false = (listed.getD j false || j == i) := fun j => zBq hlt2
     have hstep : StepQ C ops (hpE hps fl (fun j => listed.getD j false) m) (hpE hps fl (fun j => (listed.setIfInBounds i true).getD j false) m) (sig ops (s.slot C.pers) ds (fun _ => true) i) o (ds i) := by
      rcases hX i him with ⟨hfi, o2, ho2, hany⟩ | hoth
      ·rw [ho] at ho2; cases ho2
       have e : hpE hps fl (fun j => (listed.setIfInBounds i true).getD j false) m = hpE hps fl (fun j => listed.getD j false) m := by
        refine hpE_agree m fun j hj hfj => ?_
        have : j ≠ i := by intro e; subst e; rw [hfi] at hfj; cases hfj
        simp only [hL]; simp [this]
       rw [e]
       exact hany _
      ·have hord : ∀ j, j < m → j ≠ i → fl j = false → (j < i ∧ listed.getD j false = true) ∨ (i < j ∧ listed.getD j false = false) := by
        intro j hj hji hfj
        rw [hoth j hj hji] at hfj
        cases hfj
       have e1 : hpE hps fl (fun j => listed.getD j false) m = hps i := by
        rw [hpE_skip (a := i) m (by omega) fun j g1 g2 g3 => ?_]
        ·refine hpE_all i (fun j hj hfj => ?_) fun j hj => hfq j (by omega)
         rcases hord j (by omega) (by omega) hfj with q | q
         ·exact q.2
         ·omega
        ·by_cases e : j = i
         ·subst e; exact hunf
         ·rcases hord j g2 e g3 with q | q
          ·omega
          ·exact q.2
       have e2 : hpE hps fl (fun j => (listed.setIfInBounds i true).getD j false) m = hps (i + 1) := by
        rw [hpE_skip (a := i + 1) m (by omega) fun j g1 g2 g3 => ?_]
        ·refine hpE_all (i + 1) (fun j hj hfj => ?_) fun j hj => hfq j (by omega)
         simp only [hL]
         by_cases e : j = i
         ·subst e; simp
         ·rcases hord j (by omega) e hfj with q | q
          ·simp only [q.2, Bool.true_or]
          ·omega
        ·simp only [hL]
         have e : j ≠ i := by omega
         rcases hord j g2 e g3 with q | q
         ·omega
         ·simp only [q.2, Bool.false_or]; simp [e]
       rw [e1, e2]; exact hq
     refine StepQ.sound hA (hstep.congr hlook) h2 fun a' w' hs' => ih _ a' w' (by simpa using hsz) hu' hcl' (.inl ⟨fun j hj => ?_, ?_⟩)
     ·rw [zBq hlt2] at hj
      simp only [Bool.or_eq_true, beq_iff_eq] at hj
      rcases hj with g | g
      ·exact h1 j g
      ·omega
     ·have e2 : sig ops (s.slot C.pers) ds (fun j => (listed.setIfInBounds i true).getD j false) m = updO (sig ops (s.slot C.pers) ds (fun j => listed.getD j false) m) (dstO ops i) (ds i) := by
       rw [← sig_set him hunf]
       ·congr 1; funext j; exact zBq hlt2
       ·intro j t g1 g2 g3 g4 g5
        cases hb : listed.getD j false with
        | false => rfl
        | true =>
          have hoi : o.dst = some t := by simpa [dstO, ho] using g3
          have := (ords j g1 g2 t (by simp [zCw, hoi]) g4).1 hb
          omega
      rw [e2]
      have : dstO ops i = o.dst := by simp [dstO, ho]
      rw [this]; exact hs'
    ·exfalso
     have := (h2 i hlt).2 (by omega)
     rw [hunf] at this; cases this
   ·
    have hmi : m ≤ i := by omega
    have hiff := hafter hmi
    obtain ⟨s', hs', hk'⟩ : ∃ s', Sim C w0 B s' a w ∧ opsWp C.M (ros.drop i) K s' := by
     rcases h with ⟨h1, h2⟩ | ⟨i', s', h1, h2, h3, h4⟩
     ·have hie : i = m := by
       rcases Nat.lt_or_ge m i with g | g
       ·have := h1 m ((hiff m (by omega)).2 g); omega
       ·omega
      subst hie
      exact ⟨s1, conv listed a w h1 (fun j hj => (hiff j (by omega)).2 hj) h2, hk1⟩
     ·have hie : i' = i := by
       rcases Nat.lt_trichotomy i' i with g | g | g
       ·have q1 := (hiff i' (by omega)).2 g
        have := (h2 i' (by omega)).1 q1; omega
       ·exact g
       ·have := (h2 i hlt).2 g; rw [hunf] at this; cases this
      subst hie
      exact ⟨s', h3, h4⟩
    obtain ⟨o', x, g1, g2, g3⟩ := zC2 _ _ i ros hr hlt
    rw [Nat.zero_add, ho] at g1; cases g1
    rw [g3] at hk'
    refine head_sound hA g2 (K := opsWp C.M (ros.drop (i + 1)) K) (fun s'' a' w' q1 q2 => ih _ a' w' (by simpa using hsz) hu' hcl' (.inr ⟨i + 1, s'', by omega, fun j hj => ?_, q2, q1⟩)) hk' hs'
    rw [zBq hlt2]
    simp only [Bool.or_eq_true, beq_iff_eq]
    have := hiff j hj
    constructor
    ·rintro (q | q)
     ·have := this.1 q; omega
     ·omega
    ·intro q
     by_cases e : j = i
     ·exact .inr e
     ·exact .inl (this.2 (by omega))
def AnyS (M : Mod) (oc : OC) (ds : List D) (d : D) : Prop := ∀ hp2, OcWp M oc ds hp2 (fun d' hp' => d' = d ∧ hp' = hp2)
def headA (M : Mod) (o : RO) (K : St → Prop) (s : St) : Prop :=
 match o.guard with
 | none => ∃ d, AnyS M o.oc (o.args.map s.get) d ∧ K (s.put o.dst d)
 | some (g, want) =>
   match s.get g with
   | .bool b => (b = want → ∃ d, AnyS M o.oc (o.args.map (s.setO g (.bool want)).get) d ∧ K ((s.setO g (.bool want)).put o.dst d)) ∧
    (b = (!want) → K ((s.setO g (.bool (!want))).put o.dst .skip))
   | .skip => K (s.put o.dst .skip)
   | _ => False
def opsX (M : Mod) (j : Nat) : Nat → List (RO × Bool) → (St → Prop) → St → Prop
 | _, [], K, s => K s
 | i, (o, _) :: r, K, s => if i = j then headQ M false o (opsX M j (i + 1) r K) s else headA M o (opsX M j (i + 1) r K) s
theorem headA_step {ops : Array Oper} {o : Oper} {x : RO} {K : St → Prop} {s : St} (h1 : zC3 C ops o = some x) (hl : s.env.length = C.pers.length) (h : headA C.M x K s) :
 ∃ d s1, K s1 ∧ s1.hp = s.hp ∧ s1.env.length = C.pers.length ∧ (∀ hp2, StepQ C ops hp2 hp2 (s.slot C.pers) o d) ∧ s1.slot C.pers = updO (s.slot C.pers) o.dst d := by
 unfold zC3 at h1
 cases hres : zAy C.P o.op with
 | none => simp [hres] at h1
 | some p =>
   obtain ⟨oc, ys⟩ := p
   cases ha : resOs C ys with
   | none => simp [hres, ha] at h1
   | some args =>
     cases hd : zB4 C o.dst with
     | none => simp [hres, ha, hd] at h1
     | some dst =>
       cases hg : zB0 C ops o.guard with
       | none => simp [hres, ha, hd, hg] at h1
       | some guard =>
         simp [hres, ha, hd, hg] at h1; subst h1
         cases hog : o.guard with
         | none =>
           simp [hog, zB0] at hg; subst hg
           simp only [headA] at h
           obtain ⟨d, h2, h3⟩ := h
           rw [map_evO ha] at h2
           exact ⟨d, _, h3, zDh _ _ _, by rw [zBg]; exact hl, fun hp2 => ⟨oc, ys, hres, ⟨_, ha⟩, ⟨_, hd⟩, .inl ⟨hog, h2 hp2⟩⟩, zDg hd hl _⟩
         | some p =>
           obtain ⟨j, want⟩ := p
           simp only [hog, zB0] at hg
           cases hj : (ops[j]?).bind (·.dst) with
           | none => simp [hj] at hg
           | some t =>
             simp only [hj] at hg
             cases hgo : resO C (.tmp t) with
             | none => simp [hgo] at hg
             | some g =>
               simp [hgo] at hg; subst hg
               have htn := (zEa hgo).2
               simp only [headA] at h
               have hsl : s.slot C.pers t = s.get g := (zGk hgo).symm
               cases hb : s.get g <;> simp only [hb] at h
               case bool b =>
                by_cases e : b = want
                ·subst e
                 obtain ⟨d, h2, h3⟩ := h.1 rfl
                 rw [map_evO ha, zDu hgo hl hb] at h2
                 refine ⟨d, _, h3, by rw [zDh, zD7], by rw [zBg]; simpa [zCn] using hl, fun hp2 => ⟨oc, ys, hres, ⟨_, ha⟩, ⟨_, hd⟩, .inr ⟨j, b, t, hog, hj, htn, .inl ⟨by rw [hsl, hb], h2 hp2⟩⟩⟩, ?_⟩
                 rw [zDg hd (by simpa [zCn] using hl), zDu hgo hl hb]
                ·have e' : b = (!want) := by cases b <;> cases want <;> simp_all
                 subst e'
                 refine ⟨.skip, _, h.2 rfl, by rw [zDh, zD7], by rw [zBg, zCn]; exact hl, fun hp2 => ⟨oc, ys, hres, ⟨_, ha⟩, ⟨_, hd⟩, .inr ⟨j, want, t, hog, hj, htn, .inr (.inl ⟨by rw [hsl, hb], rfl, rfl⟩)⟩⟩, ?_⟩
                 rw [zDg hd (by rw [zCn]; exact hl), zDu hgo hl hb]
               case skip =>
                exact ⟨.skip, _, h, zDh _ _ _, by rw [zBg]; exact hl, fun hp2 => ⟨oc, ys, hres, ⟨_, ha⟩, ⟨_, hd⟩, .inr ⟨j, want, t, hog, hj, htn, .inr (.inr ⟨by rw [hsl, hb], rfl, rfl⟩)⟩⟩, zDg hd hl _⟩
theorem opsX_trace {ops : Array Oper} {K : St → Prop} {e : Nat} : ∀ (len k : Nat) (ros : List RO) (qs : List (RO × Bool)) (s : St), zBh C ops (List.range' k len) = some ros → qs.map (·.1) = ros → s.env.length = C.pers.length → opsX C.M e k qs K s →
 ∃ (ds : Nat → D) (σ : Nat → Nat → D) (hps : Nat → Hp) (s1 : St), K s1 ∧ hps k = s.hp ∧ hps (k + len) = s1.hp ∧ s1.env.length = C.pers.length ∧ σ k = s.slot C.pers ∧ σ (k + len) = s1.slot C.pers ∧
  ∀ i, k ≤ i → i < k + len → ∃ o, ops[i]? = some o ∧ StepQ C ops (hps i) (hps (i + 1)) (σ i) o (ds i) ∧ σ (i + 1) = updO (σ i) o.dst (ds i) ∧ (i ≠ e → hps (i + 1) = hps i ∧ ∀ hp2, StepQ C ops hp2 hp2 (σ i) o (ds i))
 | 0, k, ros, qs, s, hr, hqs, hl, h => by
   simp [zBh] at hr; subst hr
   have : qs = [] := by simpa using hqs
   subst this
   exact ⟨fun _ => .u0, fun _ => s.slot C.pers, fun _ => s.hp, s, h, rfl, rfl, hl, rfl, rfl, fun i h1 h2 => by omega⟩
 | len + 1, k, ros, qs, s, hr, hqs, hl, h => by
   rw [List.range'_succ] at hr
   obtain ⟨o, x, xs, ho, h1, h2, rfl⟩ := zCk hr
   cases qs with
   | nil => simp at hqs
   | cons p qs =>
     obtain ⟨x', q⟩ := p
     simp only [List.map_cons, List.cons.injEq] at hqs
     obtain ⟨rfl, hqs⟩ := hqs
     simp only [opsX] at h
     have key : ∃ d s1, opsX C.M e (k + 1) qs K s1 ∧ s1.env.length = C.pers.length ∧ StepQ C ops s.hp s1.hp (s.slot C.pers) o d ∧ s1.slot C.pers = updO (s.slot C.pers) o.dst d ∧
      (k ≠ e → s1.hp = s.hp ∧ ∀ hp2, StepQ C ops hp2 hp2 (s.slot C.pers) o d) := by
      by_cases hk : k = e
      ·rw [if_pos hk] at h
       obtain ⟨d, s1, k1, _, k3, k4, k5⟩ := headQ_step h1 hl h
       exact ⟨d, s1, k1, k3, k4, k5, fun q => absurd hk q⟩
      ·rw [if_neg hk] at h
       obtain ⟨d, s1, k1, k2, k3, k4, k5⟩ := headA_step h1 hl h
       exact ⟨d, s1, k1, k3, by rw [k2]; exact k4 _, k5, fun _ => ⟨k2, k4⟩⟩
     obtain ⟨d, s1, k1, k3, k4, k5, k6⟩ := key
     obtain ⟨ds, σ, hps, s2, g1, g2, g2', g3, g4, g5, g6⟩ := opsX_trace len (k + 1) xs qs s1 h2 hqs k3 k1
     refine ⟨fun i => if i = k then d else ds i, fun i => if i = k then s.slot C.pers else σ i, fun i => if i = k then s.hp else hps i, s2, g1, by simp, ?_, g3, by simp, ?_, fun i h1 h2 => ?_⟩
     ·have : k + (len + 1) ≠ k := by omega
      simp only [this, if_false]
      rw [← g2']; congr 1; omega
     ·have : k + (len + 1) ≠ k := by omega
      simp only [this, if_false]
      rw [← g5]; congr 1; omega
     ·by_cases ek : i = k
      ·subst ek
       refine ⟨o, ho, ?_, ?_, fun q => ?_⟩
       ·simpa [g2] using k4
       ·simp [g4, k5]
       ·obtain ⟨q1, q2⟩ := k6 q
        exact ⟨by simp [g2, q1], by simpa using q2⟩
      ·obtain ⟨o', q1, q2, q3, q4⟩ := g6 i (by omega) (by omega)
       have e2 : i + 1 ≠ k := by omega
       exact ⟨o', q1, by simpa [ek, e2] using q2, by simpa [ek, e2] using q3, by simpa [ek, e2] using q4⟩
theorem swp_regDX {Q : Ex → St → Prop} {s : St} {qs : List (RO × Bool)} {ros : List RO} (e : Nat) (h : opsX C.M e 0 qs (fun s1 => opsWp C.M ros (fun s' => Q .normal s'.done) s1) s) : SWp C (.regD qs ros) Q s := by
 refine ⟨fun c hc w0 B hA a w hs => ?_⟩
 have hreg : ∀ id ops d, c = .region id ops d → _ := fun id ops d e => zA8 (e ▸ hc)
 cases c <;> (try simp only [zAe] at hc) <;> (try (cases hc; done))
 case region id ops d =>
  rcases hreg _ _ _ rfl with ⟨r, h1, _⟩ | ⟨r, h1, rfl, hB1, hB2, hr⟩ | h1
  ·cases h1
  ·cases h1
   have hB := And.intro hB1 hB2
   ·skip
    rw [List.range_eq_range'] at hr
    have hl : s.env.length = C.pers.length := by obtain ⟨_, _, _, _, _, q, _⟩ := hs; exact q
    have hrl : zB9 ops ≤ r.length := by rw [zCf _ _ hr]; simpa using zDt ops
    obtain ⟨ds, σ, hps, s1, k1, k2, k2', k3, k4, k5, k6⟩ := opsX_trace (zB9 ops) 0 _ _ s (zFr _ _ 0 _ hr (zDt ops)) (flags_fst hrl) hl h
    have hsig : ∀ i, i ≤ zB9 ops → σ i = sig ops (s.slot C.pers) ds (fun _ => true) i := by
     intro i
     induction i with
     | zero => intro _; exact k4
     | succ i ih =>
       intro hi
       obtain ⟨o, q1, _, q3, _⟩ := k6 i (Nat.zero_le _) (by omega)
       rw [q3, ih (by omega)]
       simp [sig, dstO, q1]
    refine fun ro => wpIn_region_any hB.2 (draw_soundX ⟨hA, lift_pq⟩ (s := s) (s1 := s1) (K := fun s' => Q .normal s'.done) (ds := ds) (hps := hps) (m := zB9 ops) (ros := r) (fl := fun i => decide (i ≠ e)) hB.1 (zDt ops) hr (fun s a w hk hs => ⟨s.done, weak_done _ _ _ _ hs, hk⟩) hl k1 (by rw [← k2', Nat.zero_add]) k3 (fun i hi hf => ?_) (fun i hi => ?_) (fun i hi => ?_) ?_ ops.size _ a _ (by simp) ?_ ?_ (.inl ⟨?_, ?_⟩))
    ·obtain ⟨o, q1, q2, q3, q4⟩ := k6 i (Nat.zero_le _) (by omega)
     exact (q4 (by simpa using hf)).1
    ·obtain ⟨o, q1, q2, _, _⟩ := k6 i (Nat.zero_le _) (by omega)
     rw [hsig i (by omega)] at q2
     exact ⟨o, q1, q2⟩
    ·by_cases hie : i = e
     ·right
      intro j _ hji
      simp; omega
     ·left
      obtain ⟨o, q1, _, _, q4⟩ := k6 i (Nat.zero_le _) (by omega)
      refine ⟨by simpa using hie, o, q1, fun hp2 => ?_⟩
      have := (q4 hie).2 hp2
      rwa [hsig i (by omega)] at this
    ·rw [← hsig _ (Nat.le_refl _), ← k5, Nat.zero_add]
    ·simp only [unl, Array.toList_replicate]
     exact Nat.le_trans (List.length_filter_le _ _) (by simp)
    ·intro j oj hj hlj
     exfalso
     have : (Array.replicate ops.size false).getD j false = false := by
      simp only [Array.getD_eq_getD_getElem?, Array.getElem?_replicate]; split <;> rfl
     rw [this] at hlj; cases hlj
    ·intro j hlj
     exfalso
     have : (Array.replicate ops.size false).getD j false = false := by
      simp only [Array.getD_eq_getD_getElem?, Array.getElem?_replicate]; split <;> rfl
     rw [this] at hlj; cases hlj
    ·obtain ⟨G, g0, gb, g1, g2, g3, g4⟩ := hs
     have hrep : ∀ j, (Array.replicate ops.size false).getD j false = false := by
      intro j
      simp only [Array.getD_eq_getD_getElem?, Array.getElem?_replicate]; split <;> rfl
     have e1 : sig ops (s.slot C.pers) ds (fun j => (Array.replicate ops.size false).getD j false) (zB9 ops) = s.slot C.pers := by
      funext t
      exact zD4 (ops := ops) (σ0 := s.slot C.pers) (ds := ds) (E := fun j => (Array.replicate ops.size false).getD j false) (t := t) (a := 0) (zB9 ops) (Nat.zero_le _) (fun j _ _ hE => by
       rw [hrep] at hE; cases hE)
     rw [e1, hpE_none _ (fun j _ => hrep j), k2]
     obtain ⟨q1, q2⟩ := g0.drawn (w.drawn + 1)
     exact ⟨G, q1, gb, g1, g2, fun t => Rel.evo _ q2 (g4 t)⟩
  ·cases h1
 all_goals exfalso; (repeat' split at hc) <;> simp_all
end
section
variable {M : Mod} {j i : Nat} {dst : Dst} {a g : Opd} {q : Bool} {r : List (RO × Bool)} {K : St → Prop} {s : St} {want : Bool} {oc : OC} {args : List Opd}
theorem x_nil (h : K s) : opsX M j i [] K s := h
end
end GoV
end
section
set_option linter.unusedSimpArgs false
set_option linter.unusedVariables false
set_option maxHeartbeats 1000000
namespace GoV
open Go
section
variable {C : Cfg} {w0 : World} {B : Gh}
end
section
variable {M : Mod} {F : (Nat → Bool) → Hp} {i : Nat} {dst : Dst} {q : Bool} {r : List (RO × Bool)} {K : St → Prop} {s : St} {oc : OC} {args : List Opd}
end
theorem weak_resv {C : Cfg} {s : St} (k : Nat) (hk : 0 < k) : Weak C s ⟨s.env, [], { s.hp with tk := s.hp.tk ++ [.chg k []] }⟩ := by
 intro w0 B a w h
 obtain ⟨G, g0, gb, g1, g2, g3, g4⟩ := h
 obtain ⟨q1, q2⟩ := g0.tokFull (len := 0) (a := none) hk (.chg k []) (.inr ⟨rfl, rfl, rfl⟩)
 refine ⟨_, q1, gb, g1, g2, g3, fun t => ?_⟩
 have := Rel.evo _ q2 (g4 t)
 unfold St.slot at *
 split
 ·rename_i j hj
  rw [hj] at this
  exact this
 ·simp [lk, Rel]
end GoV
end
section
set_option linter.unusedSimpArgs false
set_option linter.unusedVariables false
namespace GoV
open Go
theorem zFi {l : List Nat} {n i : Nat} (h : l.take n = List.range n) (hi : i < n) : l[i]? = some i := by
 have : (l.take n)[i]? = some i := by rw [h]; simp [hi]
 rwa [List.getElem?_take, if_pos hi] at this
def St.sel (s : St) (bl tl : List Nat) : St := ⟨D.rnL (posF bl) (posF tl) s.env, [], s.hp.sel bl tl⟩
theorem zF4 {C : Cfg} {s : St} (bl tl : List Nat) (hs : SelOk s.hp bl tl) (hb : bl.take C.n0 = List.range C.n0) (ht : tl.take C.m0 = List.range C.m0) : Weak C s (s.sel bl tl) := by
 intro w0 B a w h
 obtain ⟨G, g0, gb, g1, g2, g3, g4⟩ := h
 have h0 := g0.heap
 obtain ⟨_, r2⟩ := zD8 (l := G.r) (bl := bl) fun b hb => by rw [← h0.len]; exact hs.bl_ b hb
 obtain ⟨_, t2⟩ := zD8 (l := G.tk) (bl := tl) fun b hb => by rw [← h0.lent]; exact hs.tl_ b hb
 have hr := Ren.sel h0 hs
 have hinv : Inv w0 B (s.sel bl tl).hp w (G.sel bl tl) := by
  refine g0.ghost (h0.sel hs) ⟨fun b o ho => g0.evo.imm b o ho, fun b n hbn => ?_, fun t T hT => ?_⟩ (fun n hn => ?_) (fun n hn => ?_) fun b o ho => .inl ho
  ·have e : bl[b]? = some b := zFi hb (by rw [← gb.1]; exact zAd hbn)
   exact (r2 b b e).trans (g0.evo.ref b n hbn)
  ·have e : tl[t]? = some t := zFi ht (by rw [← gb.2]; exact zAd hT)
   obtain ⟨T', q1, q2⟩ := g0.evo.tok t T hT
   exact ⟨T', (t2 t t e).trans q1, q2⟩
  ·obtain ⟨c, _, hc⟩ := zB7 hn
   exact .inl (List.mem_of_getElem? hc)
  ·obtain ⟨U, hU, hUb⟩ := mem_blks.1 hn
   obtain ⟨u, _, hu⟩ := zB7 hU
   exact .inl (mem_blks.2 ⟨U, List.mem_of_getElem? hu, hUb⟩)
 refine ⟨G.sel bl tl, hinv, gb, g1, g2, by simpa [St.sel, zFa] using g3, fun t => ?_⟩
 have := g4 t
 unfold St.slot at *
 split
 ·rename_i i hi
  rw [hi] at this
  simp only [St.sel, rnL_getD]
  exact Rel.rn _ hr this
 ·simp [St.sel, lk, Rel]
def St.toSl (s : St) (i t k n cap : Nat) (cs : List D) : St := ⟨s.env.set i (.sl s.hp.H.length k 0 n cap), [], ⟨s.hp.H ++ [.cells cs], s.hp.tk.set t (.per k (n + 1))⟩⟩
theorem relL_undef {w : World} {g : Gh} : ∀ (xs : List Value), RelL w g (List.replicate xs.length .u0) xs
 | [] => RelL.nil
 | x :: xs => by
   simp only [List.length_cons, List.replicate_succ]
   exact RelL.cons (by simp [Rel]) (relL_undef xs)
theorem swp_sl {C : Cfg} {rc : RC} {Q : Ex → St → Prop} {s : St} (i t k n : Nat) (cs : List D) (hs : s.env.getD i .u0 = .gs t n) (hb : s.hp.tk[t]? = some (.chg k cs)) (hl : cs.length = n * k) (hm : C.m0 = 0) (hn : 0 < n)
 (h : ∀ cap, n ≤ cap → SWp C rc Q (s.toSl i t k n cap (cs ++ List.replicate ((cap - n) * k) .u0))) : SWp C rc Q s := by
 refine ⟨fun c hc w0 B hA a w hsim => ?_⟩
 obtain ⟨G, g0, gb, g1, g2, g3, g4⟩ := hsim
 have h0 := g0.heap
 obtain ⟨T, hT, ⟨hk, hcl, hz, hv⟩, hok⟩ := h0.tokBlk hb
 have hTm := List.mem_of_getElem? hT
 subst hk
 have hnT : n = T.len := Nat.eq_of_mul_eq_mul_right hok.1 (hl.symm.trans hcl)
 subst hnT
 obtain ⟨b, hbT⟩ : ∃ b, T.blk = some b := by
  cases e : T.blk with
  | none => have := (hz e).1; omega
  | some b => exact ⟨b, rfl⟩
 obtain ⟨hnI, xs, e, x1, x2⟩ := hv b hbT
 obtain ⟨ad, hbr, hlc, xs', e', y1, y2, y3⟩ := hok.2.2 b hbT
 rw [x1] at y1
 simp only [Option.some.injEq, Obj.cells.injEq] at y1
 obtain ⟨rfl, rfl, _⟩ := y1
 have hxl : xs.toList.length = T.cap * T.k := by rw [Array.length_toList, y2]
 have hle : T.len * T.k ≤ T.cap * T.k := Nat.mul_le_mul_right _ hlc
 have hrest : (xs.toList.drop (T.len * T.k)).length = (T.cap - T.len) * T.k := by rw [List.length_drop, hxl, Nat.sub_mul]
 have hnew : w0.heap.size ≤ b := by
  rcases g0.newt b (mem_blks.2 ⟨T, hTm, hbT⟩) with q | q
  ·have : B.tk = [] := List.eq_nil_of_length_eq_zero (by rw [gb.2, hm])
   rw [this] at q; simp [blks] at q
  ·exact q
 have hbl : b < w.heap.size := (h0.tok T hTm).lt hbT
 let T' : Tk := ⟨none, none, T.len + 1, T.k, T.len + 1⟩
 let G' : Gh := ⟨G.r ++ [b], G.tk.set t T', G.I⟩
 have htl : t < G.tk.length := zAd hT
 have he : Evo w G w G' := by
  refine ⟨fun c o ho => ⟨ho, rfl⟩, fun c m hc => ?_, fun u U hU => ?_⟩
  ·show (G.r ++ [b])[c]? = some m
   rw [List.getElem?_append_left (zAd hc)]; exact hc
  ·by_cases e : t = u
   ·subst e
    rw [hT] at hU; cases hU
    exact ⟨T', by simp [G', htl], rfl, .inr (Nat.lt_succ_self _)⟩
   ·exact ⟨U, by simp [G', List.getElem?_set, e, hU], rfl, .inl rfl⟩
 have getT : ∀ (u : Nat) (U : Tk), G'.tk[u]? = some U → (u = t ∧ U = T') ∨ (u ≠ t ∧ G.tk[u]? = some U) := by
  intro u U hU
  simp only [G', List.getElem?_set] at hU
  by_cases e : t = u
  ·subst e; simp [htl] at hU; exact .inl ⟨rfl, hU.symm⟩
  ·rw [if_neg e] at hU; exact .inr ⟨fun q => e q.symm, hU⟩
 have notb : ∀ (u : Nat) (U : Tk) (m : Nat), u ≠ t → G.tk[u]? = some U → U.blk = some m → m ≠ b := fun u U m hu hU hm q => by
  subst q
  exact hu (zDs h0.tokd hU hT hm hbT)
 have hh : HeapRel w G' ⟨s.hp.H ++ [.cells (cs ++ List.replicate ((T.cap - T.len) * T.k) .u0)], s.hp.tk.set t (.per T.k (T.len + 1))⟩ := by
  refine ⟨by simp [G', h0.len], fun c C' m hC hm => ?_, fun m hm => ?_, ?_, by simp [G', h0.lent], fun u V U hV hU => ?_, fun U hU => ?_, ?_, fun c o ho => ⟨(h0.imm c o ho).1, fun j hj => ?_⟩⟩
  ·rcases Nat.lt_or_ge c s.hp.H.length with q | q
   ·simp only [List.getElem?_append_left q] at hC
    have hm' : G.r[c]? = some m := by
     have : (G.r ++ [b])[c]? = some m := hm
     rwa [List.getElem?_append_left (by rw [← h0.len]; exact q)] at this
    exact (h0.blk c C' m hC hm').evo he
   ·simp only [List.getElem?_append_right q] at hC
    have hc0 : c - s.hp.H.length = 0 := by
     have := zAd hC; simp at this; omega
    rw [hc0] at hC; simp at hC; subst hC
    have hm' : (G.r ++ [b])[c]? = some m := hm
    rw [List.getElem?_append_right (by rw [← h0.len]; exact q), ← h0.len, hc0] at hm'
    simp at hm'; subst hm'
    refine ⟨xs.toList, e, by simpa using x1, ?_, y3⟩
    have hr := (x2.append (relL_undef (xs.toList.drop (T.len * T.k))))
    rw [List.take_append_drop, hrest] at hr
    exact RelL.evo _ he hr
  ·rcases List.mem_append.1 hm with q | q
   ·exact h0.lt m q
   ·simp at q; subst q; exact hbl
  ·show (G.r ++ [b]).Nodup
   rw [List.nodup_append]
   refine ⟨h0.nodup, by simp, fun x hx y hy q => ?_⟩
   simp at hy; subst hy; subst q; exact hbr hx
  ·rcases getT u U hU with ⟨rfl, rfl⟩ | ⟨q1, q2⟩
   ·have : V = .per T.k (T.len + 1) := by
     have hl' : u < s.hp.tk.length := by rw [h0.lent]; exact htl
     simp [hl'] at hV; exact hV.symm
    subst this
    exact ⟨rfl, rfl, fun b' hb' => by simp [T'] at hb'⟩
   ·have hV' : s.hp.tk[u]? = some V := by
     simp only [List.getElem?_set] at hV
     rwa [if_neg (fun q => q1 q.symm)] at hV
    exact (h0.tv u V U hV' q2).evo he (fun _ _ _ ho => ho) fun _ _ => rfl
  ·obtain ⟨u, hu⟩ := List.mem_iff_getElem?.1 hU
   rcases getT u U hu with ⟨rfl, rfl⟩ | ⟨q1, q2⟩
   ·exact ⟨hok.1, fun _ => rfl, fun b' hb' => by simp [T'] at hb'⟩
   ·refine (h0.tok U (List.mem_of_getElem? q2)).keep (fun _ _ => rfl) fun m hm hmr hmr' => ?_
    rcases List.mem_append.1 hmr' with p | p
    ·exact hmr p
    ·simp at p; exact notb u U m q1 q2 hm p
  ·refine nodup_blks fun i j U V m hi hj hU hV => ?_
   rcases getT i U hi with ⟨rfl, rfl⟩ | ⟨q1, q2⟩
   ·simp [T'] at hU
   ·rcases getT j V hj with ⟨rfl, rfl⟩ | ⟨p1, p2⟩
    ·simp [T'] at hV
    ·exact zDs h0.tokd q2 p2 hU hV
  ·have hj' : (G.r ++ [b])[j]? = some c := hj
   rcases Nat.lt_or_ge j G.r.length with q | q
   ·rw [List.getElem?_append_left q] at hj'
    show (s.hp.H ++ _)[j]? = _
    rw [List.getElem?_append_left (by rw [h0.len]; exact q)]
    exact (h0.imm c o ho).2 j hj'
   ·exfalso
    rw [List.getElem?_append_right q] at hj'
    have := List.mem_of_getElem? hj'
    simp at this; subst this
    exact hnI o ho
 have hinv : Inv w0 B ⟨s.hp.H ++ [.cells (cs ++ List.replicate ((T.cap - T.len) * T.k) .u0)], s.hp.tk.set t (.per T.k (T.len + 1))⟩ w G' := by
  refine g0.ghost hh (g0.evo.trans he) (fun m hm => ?_) (fun m hm => ?_) fun c o ho => .inl ho
  ·rcases List.mem_append.1 hm with q | q
   ·exact .inl q
   ·simp at q; subst q; exact .inr hnew
  ·obtain ⟨U, hU, hUb⟩ := mem_blks.1 hm
   obtain ⟨u, hu⟩ := List.mem_iff_getElem?.1 hU
   rcases getT u U hu with ⟨rfl, rfl⟩ | ⟨q1, q2⟩
   ·simp [T'] at hUb
   ·exact .inl (mem_blks.2 ⟨U, List.mem_of_getElem? q2, hUb⟩)
 refine (h T.cap hlc).run c hc w0 B hA a w ⟨G', hinv, gb, g1, g2, by simpa [St.toSl] using g3, fun u => ?_⟩
 have := g4 u
 unfold St.slot at *
 split
 ·rename_i j hj
  rw [hj] at this
  simp only at this ⊢
  by_cases e : i = j
  ·subst e
   rw [hs] at this
   have hlt : i < s.env.length := by
    rcases Nat.lt_or_ge i s.env.length with q | q
    ·exact q
    ·simp [List.getD, List.getElem?_eq_none q] at hs
   simp only [Rel] at this
   obtain ⟨ad', cap', T1, p1, p2, p3, p4, p5⟩ := this
   rw [hT] at p3; cases p3
   obtain ⟨rfl, rfl, _⟩ := p5 rfl
   have e1 : (s.toSl i t T.k T.len T.cap (cs ++ List.replicate ((T.cap - T.len) * T.k) .u0)).env.getD i .u0 = .sl s.hp.H.length T.k 0 T.len T.cap := by
    simp [St.toSl, List.getD, hlt]
   rw [e1]
   simp only [Rel]
   refine ⟨b, 0, ?_, by rw [p1, ad], fun _ => rfl⟩
   show (G.r ++ [b])[_]? = _
   rw [h0.len, List.getElem?_append_right (Nat.le_refl _)]; simp
  ·have e1 : (s.toSl i t T.k T.len T.cap (cs ++ List.replicate ((T.cap - T.len) * T.k) .u0)).env.getD j .u0 = s.env.getD j .u0 := by
    simp [St.toSl, List.getD, List.getElem?_set, e]
   rw [e1]
   exact Rel.evo _ he this
 ·simp [St.toSl, lk, Rel]
end GoV
end
section
set_option linter.unusedSimpArgs false
set_option linter.unusedVariables false
namespace GoV
open Go
mutual
def D.nn : D → D
 | .slice es o => .slice (D.nnL es) o
 | .agg cs => .agg (D.nnL cs)
 | .tup vs => .tup (D.nnL vs)
 | .lit (.slice none 0 0) => .slice [] .no
 | d => d
def D.nnL : List D → List D
 | [] => []
 | d :: ds => D.nn d :: D.nnL ds
end
mutual
theorem Rel.nn {w : World} {g : Gh} : ∀ (d : D) {x : Value}, Rel w g d x → Rel w g d.nn x
 | .slice es o, x, h => by
   simp only [D.nn]
   simp only [Rel] at h ⊢
   have hl : (D.nnL es).length = es.length := nnL_length es
   obtain ⟨a, cap, k, xs, h1, h2, h3, h4, h5, h6⟩ := h
   refine ⟨a, cap, k, xs, ?_, by rw [hl]; exact h2, RelL.nn es h3, h4, h5, by rw [hl]; exact h6⟩
   rcases h1 with h1 | ⟨h1, rfl, h8⟩
   ·exact .inl (by rw [hl]; exact h1)
   ·exact .inr ⟨h1, rfl, h8⟩
 | .agg cs, x, h => by
   simp only [D.nn]
   simp only [Rel] at h ⊢
   obtain ⟨xs, h1, h2, h3⟩ := h
   exact ⟨xs, h1, RelL.nn cs h2, h3⟩
 | .tup cs, x, h => by
   simp only [D.nn]
   simp only [Rel] at h ⊢
   obtain ⟨xs, h1, h2⟩ := h
   exact ⟨xs, h1, RelL.nn cs h2⟩
 | .lit v, x, h => by
   unfold D.nn
   split
   iterate 3
    ·simp_all
   ·rename_i e
    simp only [D.lit.injEq] at e
    subst e
    simp only [Rel] at h ⊢
    obtain ⟨rfl, _⟩ := h
    exact ⟨⟨0, 0, none⟩, 0, 0, [], .inr ⟨by simp, by simp, rfl⟩, by simp, RelL.nil, by simp, At.nil, trivial⟩
   ·exact h
 | .u0, x, h => h
 | .skip, x, h => h
 | .int _ _, x, h => h
 | .bool _, x, h => h
 | .str _, x, h => h
 | .iface _ _, x, h => h
 | .fn _ _ _, x, h => h
 | .ptr _ _, x, h => h
 | .ip _, x, h => h
 | .sl _ _ _ _ _, x, h => h
 | .gs _ _, x, h => h
 | .gp _ _ _, x, h => h
 | .mp _, x, h => h
theorem RelL.nn {w : World} {g : Gh} : ∀ (ds : List D) {xs : List Value}, RelL w g ds xs → RelL w g (D.nnL ds) xs
 | [], xs, h => h
 | d :: ds, xs, h => by
   obtain ⟨y, ys, rfl, h1, h2⟩ := h.inv
   exact RelL.cons (Rel.nn d h1) (RelL.nn ds h2)
theorem nnL_length : ∀ ds : List D, (D.nnL ds).length = ds.length
 | [] => rfl
 | d :: ds => by simp [D.nnL, nnL_length ds]
end
theorem eff_args {M : Mod} {f : FuncId} {args args' : List D} {hp : Hp} {R : D → Hp → Prop} (h : Eff M f args' hp R) (e : D.nnL args = args') : Eff M f args hp R :=
 ⟨h.1, fun w g xs hA hh hr => h.2 w g xs hA hh (e ▸ RelL.nn args hr)⟩
section
variable {P : Mod} {dst : Dst} {r : List RO} {rq : List (RO × Bool)} {K : St → Prop} {s : St} {ds : List D}
end
end GoV
end
section
set_option linter.unusedSimpArgs false
set_option linter.unusedVariables false
namespace GoV
open Go
end GoV
end
section
set_option linter.unusedSimpArgs false
set_option linter.unusedVariables false
namespace GoV
open Go
section
variable {C : Cfg} {x y : RC} {s s' : St} {i j : Nat}
end
end GoV
end
section
set_option linter.unusedSimpArgs false
set_option linter.unusedVariables false
set_option maxHeartbeats 1000000
namespace GoV
open Go
section
variable {P : Program} {ρ : Operand → Value} {o : Oper} {w0 : World} {g0 : Gh} {hp : Hp} {w : World} {g : Gh} {K : D → Hp → Prop}
theorem done_newG {t : TypeId} {z : List D} {tt : Nat} (hop : o.op = .alloc t) (hz : zCc P t = some z) (hi : Inv w0 g0 hp w g) (hpos : 0 < z.length) (hV : hp.tk[tt]? = some (.chg z.length []))
 (h : K (.gp tt 1 0) { hp with tk := hp.tk.set tt (.chg z.length z) }) : Done P ρ o w0 g0 w g K := by
 obtain ⟨i, zv, h1, h2, h3⟩ := zB6 hz
 obtain ⟨f1, f2⟩ := zDa (w := w) (g := g) h3
 obtain ⟨T, hgT, ⟨hk, hcs, hn0, hIb⟩, hok⟩ := hi.heap.tokBlk hV
 have hT0 : T.len = 0 := by
  rcases Nat.eq_zero_or_pos T.len with q | q
  ·exact q
  ·have := Nat.mul_pos q hok.1
   simp only [List.length_nil] at hcs
   omega
 have hlen : zv.cells.toList.length = z.length := f1.length
 obtain ⟨q1, q2⟩ := hi.goTok (w' := w.alloc (.cells zv.cells.toList.toArray t (0, 0))) (T' := ⟨some w.heap.size, some ⟨w.heap.size, 0, none⟩, 1, T.k, 1⟩) (I' := g.I) (V' := .chg z.length z) hgT rfl (.inr (by simp only [hT0]; omega))
  (fun n hlt _ => zA2 w _ n hlt) (by simp) rfl rfl rfl (fun n hn => by simp at hn; subst hn; exact .inr (Nat.le_refl _)) (fun c o ho => ⟨ho, cell_of_heap (zA2 w _ c (hi.heap.imm c o ho).1)⟩) (fun c o ho => .inl ho)
  ⟨hok.1, by simp, fun c hc => by simp at hc; subst hc; exact ⟨rfl, fun hm => by have := hi.heap.lt _ hm; omega, Nat.le_refl _, _, t, zBe w _, by rw [List.size_toArray, hlen, ← hk]; simp, by simpa using f2⟩⟩
  (fun he => ⟨hk, by simp only [hk]; omega, by simp, fun c hc => by
   simp at hc; subst hc
   refine ⟨fun o ho => ?_, _, t, zBe w _, ?_⟩
   ·have := (hi.heap.imm _ o ho).1; omega
   ·have e : (zv.cells.toList.toArray.toList.take (1 * T.k)) = zv.cells.toList := by
     rw [List.toList_toArray, Nat.one_mul, ← hk, ← hlen, List.take_length]
    rw [e]
    exact RelL.evo _ he f1.any⟩)
 refine ⟨_, _, _, .pointer (some ⟨w.heap.size, 0, none⟩), _, h, q1, q2, ?_, .inl ?_⟩
 ·simp only [Rel]
  exact ⟨_, _, rfl, zD5 hgT, Nat.le_refl _, fun _ => ⟨_, rfl, rfl⟩⟩
 ·simp [execOp, hop, Instr.alloc, zeroValue, typeInfo, h1, h2, newVar, newRow]
end
theorem resolve_newb {P : Program} {op : Op} {z : List D} {xs : List Operand} (h : zAy P op = some (.newb z, xs)) : ∃ t, op = .alloc t ∧ zCc P t = some z := by
 cases op <;> simp only [zAy] at h <;> try (cases h; done)
 case alloc t =>
  cases hz : zCc P t with
  | none => simp [hz] at h
  | some z' =>
    simp only [hz, Option.map_some, Option.some.injEq, Prod.mk.injEq] at h
    obtain ⟨h, _⟩ := h
    split at h
    ·cases h
    ·cases h; exact ⟨t, rfl, hz⟩
 all_goals exfalso
 case convert => simp only [Option.map_eq_some_iff, Prod.mk.injEq] at h; obtain ⟨oc, h1, rfl, _⟩ := h; unfold resCv at h1; (repeat' split at h1) <;> simp at h1
 case buildSlice => simp only [Option.map_eq_some_iff, Prod.mk.injEq] at h; obtain ⟨oc, h1, rfl, _⟩ := h; unfold resBsl at h1; (repeat' split at h1) <;> simp at h1
 case makeSlice => simp only [Option.map_eq_some_iff, Prod.mk.injEq] at h; obtain ⟨oc, h1, rfl, _⟩ := h; unfold resMks at h1; (repeat' split at h1) <;> simp at h1
 case slice =>
  split at h
  ·simp only [Option.map_eq_some_iff, Prod.mk.injEq] at h; obtain ⟨oc, h1, rfl, _⟩ := h; unfold resSlc at h1; (repeat' split at h1) <;> simp at h1
  ·split at h
   ·simp only [Option.map_eq_some_iff, Prod.mk.injEq] at h; obtain ⟨oc, h1, h2, _⟩ := h; cases h2
   ·cases h
 case call c =>
  simp only [zFt] at h
  cases hc : c.callee with
  | value g => simp [hc] at h
  | invoke r m => simp [hc] at h
  | builtin b =>
    cases b <;> simp only [hc] at h <;> try (cases h; done)
    all_goals (repeat' split at h) <;> simp_all
 all_goals try unfold resBin resEqI at h
 all_goals (repeat' split at h) <;> simp_all
def Fill (oc : OC) (ds : List D) (hp hp1 : Hp) (d : D) : Prop :=
 ∃ z t, oc = .newb z ∧ ds = [] ∧ 0 < z.length ∧ hp.tk[t]? = some (.chg z.length []) ∧ d = .gp t 1 0 ∧ hp1 = { hp with tk := hp.tk.set t (.chg z.length z) }
def OcG (M : Mod) (oc : OC) (ds : List D) (hp hp1 : Hp) (d : D) : Prop := OcWp M oc ds hp (fun d' hp' => d' = d ∧ hp' = hp1) ∨ Fill oc ds hp hp1 d
def StepG (C : Cfg) (ops : Array Oper) (hp hp1 : Hp) (σ : Nat → D) (o : Oper) (d : D) : Prop :=
 ∃ oc xs, zAy C.P o.op = some (oc, xs) ∧ (∃ ys, resOs C xs = some ys) ∧ (∃ ds, zB4 C o.dst = some ds) ∧
  ((o.guard = none ∧ OcG C.M oc (xs.map (evO σ)) hp hp1 d) ∨
   ∃ j want t, o.guard = some (j, want) ∧ (ops[j]?).bind (·.dst) = some t ∧ t < C.nt ∧
    ((σ t = .bool want ∧ OcG C.M oc (xs.map (evO σ)) hp hp1 d) ∨ (σ t = .bool (!want) ∧ d = .skip ∧ hp1 = hp) ∨ (σ t = .skip ∧ d = .skip ∧ hp1 = hp)))
section
variable {C : Cfg} {w0 : World} {B : Gh}
theorem StepG.congr {ops : Array Oper} {hp hp1 : Hp} {σ σ' : Nat → D} {o : Oper} {d : D} (h : StepG C ops hp hp1 σ o d) (hs : ∀ t ∈ o.looksAt ops, σ t = σ' t) : StepG C ops hp hp1 σ' o d := by
 obtain ⟨oc, xs, h1, h2, h3, h4⟩ := h
 have hm : xs.map (evO σ) = xs.map (evO σ') := by
  refine List.map_congr_left fun x hx => ?_
  have := resolve_sub h1 x hx
  cases x with
  | tmp t =>
    refine hs t ?_
    simp only [Oper.looksAt, List.mem_append, List.mem_filterMap]
    exact .inl ⟨.tmp t, by simpa using this, rfl⟩
  | _ => rfl
 refine ⟨oc, xs, h1, h2, h3, ?_⟩
 rw [← hm]
 rcases h4 with h4 | ⟨j, want, t, g1, g2, g3, g4⟩
 ·exact .inl h4
 ·refine .inr ⟨j, want, t, g1, g2, g3, ?_⟩
  rw [← hs t (by simp [Oper.looksAt, g1, g2])]
  exact g4
theorem StepG.sound {ro : Option Nat} {Q : Exit → Act → World → Prop} (hA : C.M.start w0 B ∧ PQ C w0 B Q) {ops : Array Oper} {hp hp1 : Hp} {σ : Nat → D} {o : Oper} {d : D} {next : Act → World → Prop} (h : StepG C ops hp hp1 σ o d) {a : Act} {w : World} (hs : SimF C w0 B σ hp a w)
 (ih : ∀ a w, SimF C w0 B (updO σ o.dst d) hp1 a w → next a w) :
 if Region.wanted o (yielded ops a.tmps) then o.wpIn (FR ro) 0 C.P a w next Q else (∀ f, o.about C.P w a.eval = some f → (FR ro).fn f) ∧ next (a.put o.dst Go.undef) w := by
 obtain ⟨oc, xs, h1, ⟨ys, h2⟩, ⟨ds, h3⟩, h4⟩ := h
 obtain ⟨G, hi, gb, g1, g2, g4⟩ := hs
 have run : OcG C.M oc (xs.map (evO σ)) hp hp1 d → o.wpIn (FR ro) 0 C.P a w next Q := by
  rintro (hoc | ⟨z, t, rfl, _, hpos, hV, rfl, rfl⟩)
  ·refine OcWp_sound h1 hA.1 hi (rel_evO g4 h2) hoc (fun ch w' hp => hA.2 _ _ _ g2 hp) ?_
   rintro d' hp' G' v w' ⟨rfl, rfl⟩ k2 k3 k4
   refine ih _ _ ⟨G', k2, gb, by rw [zB8]; exact g1, by rw [zC0]; exact g2, ?_⟩
   exact zF6 (fun t => Rel.evo _ k3 (g4 t)) g1 h3 k4
  ·obtain ⟨ty, hop, hz⟩ := resolve_newb h1
   obtain ⟨d', hp', G', v, w', ⟨rfl, rfl⟩, k2, k3, k4, k5⟩ := done_newG (ρ := a.eval) (o := o) (K := fun d' hp' => d' = .gp t 1 0 ∧ hp' = { hp with tk := hp.tk.set t (.chg z.length z) }) hop hz hi hpos hV ⟨rfl, rfl⟩
   have hnd : ∀ c, o.op ≠ .defer c := by
    intro c hc
    rw [hop] at hc; cases hc
   unfold Oper.wpIn
   rw [Oper.semAt_eq _ _ _ hnd]
   refine ⟨fun _ _ => trivial, ?_⟩
   have fin : next (a.put o.dst v) w' := ih _ _ ⟨G', k2, gb, by rw [zB8]; exact g1, by rw [zC0]; exact g2, zF6 (fun t => Rel.evo _ k3 (g4 t)) g1 h3 k4⟩
   rcases k5 with k5 | ⟨k5, rfl⟩ <;> rw [k5] <;> exact fin
 have skp : d = .skip ∧ hp1 = hp → next (a.put o.dst Go.undef) w := by
  rintro ⟨rfl, rfl⟩
  refine ih _ _ ⟨G, hi, gb, by rw [zB8]; exact g1, by rw [zC0]; exact g2, ?_⟩
  exact zF6 g4 g1 h3 (by simp [Rel])
 rcases h4 with ⟨hog, h4⟩ | ⟨j, want, t, hog, hj, htn, h4⟩
 ·simp only [Region.wanted, hog, if_true]; exact run h4
 ·have hlt : t < a.tmps.size := g1.symm ▸ htn
  have hy : yielded ops a.tmps j = match a.tmps.getD t Go.undef with | .bool b => some b | _ => none := by
   simp [yielded, hj, Array.getD_eq_getD_getElem?, hlt]
   cases a.tmps[t] <;> rfl
  have hrel := g4 t
  rcases h4 with ⟨e, h4⟩ | ⟨e, h4⟩ | ⟨e, h4⟩
  ·rw [e] at hrel; simp only [Rel] at hrel
   have : Region.wanted o (yielded ops a.tmps) = true := by
    simp only [Region.wanted, hog]; rw [hy, hrel]; cases want <;> rfl
   rw [this]; simp only [if_true]; exact run h4
  iterate 2
   ·rw [e] at hrel; simp only [Rel] at hrel
    have : Region.wanted o (yielded ops a.tmps) = false := by
     simp only [Region.wanted, hog]; rw [hy, hrel]; cases want <;> rfl
    rw [this]; simp only [Bool.false_eq_true, if_false]; exact ⟨fun _ _ => trivial, skp h4⟩
end
section
variable {M : Mod} {F : (Nat → Bool) → Hp} {L : List (Nat × Nat)} {i : Nat} {dst : Dst} {q : Bool} {r : List (RO × Bool)} {K : St → Prop} {s : St} {oc : OC} {args : List Opd}
end
end GoV
end
section
set_option linter.unusedSimpArgs false
set_option linter.unusedVariables false
namespace GoV
open Go
theorem Inv.grow {w0 g0 hp w g} (h : Inv w0 g0 hp w g) (os : Array Obj) : Inv w0 g0 hp (Go.Sort.grow w os) g ∧ Evo w g (Go.Sort.grow w os) g := by
 have hb : ∀ n, n < w.heap.size → (Go.Sort.grow w os).heap[n]? = w.heap[n]? := fun n hn => by
  show (w.heap ++ os)[n]? = w.heap[n]?
  rw [Array.getElem?_append_left hn]
 have he : Evo w g (Go.Sort.grow w os) g := ⟨fun b o' hi => ⟨hi, cell_of_heap (hb b (h.heap.imm b o' hi).1)⟩, fun _ _ h => h, fun _ T h => ⟨T, h, rfl, .inl rfl⟩⟩
 refine ⟨h.step (h.heap.other he rfl rfl (fun n hn => hb n (h.heap.own_lt n hn)) (by simp) fun b o ho => .inl ho) he ⟨rfl, rfl, rfl, by simp, fun b hb' _ => hb b hb'⟩ (fun n hn => .inl hn) (fun n hn => .inl hn) (fun b o ho => .inl ho), he⟩
theorem relL_row {α : Type} {w : World} {g : Gh} {f : α → D} {enc : α → Value} (h : ∀ x, Rel w g (f x) (enc x)) : ∀ l : List α, RelL w g (l.map f) (l.map enc)
 | [] => RelL.nil
 | x :: l => RelL.cons (h x) (relL_row h l)
theorem relL_row_inv {α : Type} {w : World} {g : Gh} {f : α → D} {enc : α → Value} (h : ∀ x y, Rel w g (f x) y → y = enc x) : ∀ (l : List α) (r : List D) (xs : List Value), RelL w g (l.map f ++ r) xs → ∃ ys, xs = l.map enc ++ ys ∧ RelL w g r ys
 | [], r, xs, hr => ⟨xs, rfl, hr⟩
 | x :: l, r, xs, hr => by
   obtain ⟨y, ys, rfl, h1, h2⟩ := hr.inv
   obtain ⟨zs, rfl, h3⟩ := relL_row_inv h l r ys h2
   exact ⟨zs, by rw [h x y h1]; rfl, h3⟩
open Go.Sort in
theorem eff_rowV {M : Mod} {f : FuncId} {α : Type} [Inhabited α] (hc : zBu M f) (enc : α → Value) (dat : α → D) (hd : ∀ w g x, Rel w g (dat x) (enc x)) (hi : ∀ w g x y, Rel w g (dat x) y → y = enc x) (h1 : ∀ x, oneC (enc x))
 (ss srt : List α) (rest : List D) (n cap : Nat) (hn : n = ss.length) (hs : srt.length = ss.length) (hcap : n + rest.length = cap)
 (dv : D) (rv : Nat → Nat → Value) (hv : ∀ (w : World) (g : Gh) (b o : Nat), g.r[0]? = some b → (0 < cap → o = 0) → Rel w g dv (rv b o))
 (h : ∀ w blk off, Holds enc w blk off ss.toArray → blk < w.heap.size → Calls M.P f #[.slice (some ⟨blk, off, none⟩) ss.length cap] w fun e w' => e = .returned (rv blk off) ∧ ∃ k os, w' = Go.Sort.grow (putRow enc (ahead w k) blk off srt.toArray) os) :
 Eff M f [.sl 0 1 0 n cap] ⟨[.cells (ss.map dat ++ rest)], []⟩ fun d hp => d = dv ∧ hp = ⟨[.cells (srt.map dat ++ rest)], []⟩ := by
 refine ⟨hc, fun w g xs hA hH hargs => ?_⟩
 obtain ⟨v, vs, rfl, g1, g2⟩ := hargs.inv
 have := g2.inv_nil
 subst this
 simp only [Rel] at g1
 obtain ⟨b, o, hb, rfl, ho⟩ := g1
 obtain ⟨ys, e, k1, k2, k3⟩ := hH.blk 0 _ b rfl hb
 obtain ⟨zs, rfl, k4⟩ := relL_row_inv (hi w g) ss rest ys k2
 have hlt : b < w.heap.size := hH.lt b (List.mem_of_getElem? hb)
 have hz : ss.length = 0 ∨ o = 0 := by
  rcases Nat.eq_zero_or_pos cap with q | q
  ·left; omega
  ·exact .inr (ho q)
 have hold : Holds enc w b o ss.toArray := fun j hj => by
  have hj' : j < ss.length := by simpa using hj
  have ho0 : o = 0 := by rcases hz with q | q <;> omega
  subst ho0
  refine ⟨?_, by simp [World.frozen?, k1]⟩
  rw [Nat.zero_add]
  simp only [World.cell?, k1]
  simp [hj', List.getElem?_append_left (show j < (ss.map enc).length by simpa using hj')]
 subst hn
 refine (h w b o hold hlt).mono fun e' w' hh => ?_
 obtain ⟨rfl, k, os, rfl⟩ := hh
 have hheap : (putRow enc (ahead w k) b o srt.toArray).heap[b]? = some (.cells (srt.map enc ++ zs).toArray e (0, 0)) := by
  have e1 : (putRow enc (ahead w k) b o srt.toArray).heap = w.heap.modify b (onCells (putCells enc o srt.toArray)) := rfl
  rw [e1, Array.getElem?_modify, if_pos rfl, k1]
  simp only [Option.map_some, onCells]
  congr 2
  unfold putCells
  apply Array.ext_getElem?
  intro i
  simp only [Array.getElem?_mapIdx, List.getElem?_toArray, List.size_toArray]
  rcases hz with q | q
  ·have hs0 : srt = [] := List.eq_nil_of_length_eq_zero (by omega)
   have hs1 : ss = [] := List.eq_nil_of_length_eq_zero q
   subst hs0; subst hs1
   simp only [List.map_nil, List.nil_append]
   cases zs[i]? with
   | none => rfl
   | some y => simp only [Option.map_some]; rw [if_neg (by simp)]
  ·subst q
   by_cases hi' : i < srt.length
   ·rw [List.getElem?_append_left (by simp; omega), List.getElem?_append_left (by simpa using hi')]
    simp [hi', show i < ss.length by omega]
   ·rw [List.getElem?_append_right (by simp; omega), List.getElem?_append_right (by simp; omega)]
    simp only [List.length_map, hs, Nat.zero_add, Nat.zero_le, true_and]
    have : ¬ i < ss.length := by omega
    simp [this]
 obtain ⟨u1, u2⟩ := (Inv.refl' hH).write (w' := putRow enc (ahead w k) b o srt.toArray) 0 b hb ⟨_, rfl, by simp⟩ (.cells (srt.map dat ++ rest))
  (fun w1 g1 he => by
   rw [hheap]
   refine ⟨_, e, rfl, ?_, ?_⟩
   ·have := relL_row (hd w1 g1) srt
    exact this.append (RelL.evo _ he k4)
   ·intro y hy
    rcases List.mem_append.1 hy with q | q
    ·obtain ⟨x, _, rfl⟩ := List.mem_map.1 q
     exact h1 x
    ·exact k3 y (List.mem_append.2 (.inr q)))
  (fun m hm => by
   show (w.heap.modify b (onCells (putCells enc o srt.toArray)))[m]? = _
   rw [Array.getElem?_modify, if_neg (Ne.symm hm)]) (by simp) rfl rfl rfl
 obtain ⟨v1, v2⟩ := u1.grow os
 exact ⟨_, _, _, _, rfl, ⟨rfl, rfl⟩, v1, hv _ _ _ _ hb ho⟩
open Go.Sort in
theorem eff_row {M : Mod} {f : FuncId} {α : Type} [Inhabited α] (hc : zBu M f) (enc : α → Value) (dat : α → D) (hd : ∀ w g x, Rel w g (dat x) (enc x)) (hi : ∀ w g x y, Rel w g (dat x) y → y = enc x) (h1 : ∀ x, oneC (enc x))
 (ss srt : List α) (rest : List D) (n cap : Nat) (hn : n = ss.length) (hs : srt.length = ss.length) (hcap : n + rest.length = cap)
 (h : ∀ w blk off, Holds enc w blk off ss.toArray → blk < w.heap.size → Calls M.P f #[.slice (some ⟨blk, off, none⟩) ss.length cap] w fun e w' => e = .returned (.tuple #[]) ∧ ∃ k os, w' = Go.Sort.grow (putRow enc (ahead w k) blk off srt.toArray) os) :
 Eff M f [.sl 0 1 0 n cap] ⟨[.cells (ss.map dat ++ rest)], []⟩ fun d hp => d = .tup [] ∧ hp = ⟨[.cells (srt.map dat ++ rest)], []⟩ :=
 eff_rowV hc enc dat hd hi h1 ss srt rest n cap hn hs hcap (.tup []) (fun _ _ => .tuple #[]) (fun _ _ _ _ _ _ => by simp [Rel, RelL]) h
open Go.Sort in
theorem eff_rowS {M : Mod} {f : FuncId} {α : Type} [Inhabited α] (hc : zBu M f) (enc : α → Value) (dat : α → D) (hd : ∀ w g x, Rel w g (dat x) (enc x)) (hi : ∀ w g x y, Rel w g (dat x) y → y = enc x) (h1 : ∀ x, oneC (enc x))
 (ss srt : List α) (rest : List D) (n cap m : Nat) (hn : n = ss.length) (hs : srt.length = ss.length) (hcap : n + rest.length = cap)
 (h : ∀ w blk off, Holds enc w blk off ss.toArray → blk < w.heap.size → Calls M.P f #[.slice (some ⟨blk, off, none⟩) ss.length cap] w fun e w' => e = .returned (.slice (some ⟨blk, off, none⟩) m cap) ∧ ∃ k os, w' = Go.Sort.grow (putRow enc (ahead w k) blk off srt.toArray) os) :
 Eff M f [.sl 0 1 0 n cap] ⟨[.cells (ss.map dat ++ rest)], []⟩ fun d hp => d = .sl 0 1 0 m cap ∧ hp = ⟨[.cells (srt.map dat ++ rest)], []⟩ :=
 eff_rowV hc enc dat hd hi h1 ss srt rest n cap hn hs hcap (.sl 0 1 0 m cap) (fun b o => .slice (some ⟨b, o, none⟩) m cap) (fun _ _ b o hb ho => by simp only [Rel]; exact ⟨b, o, hb, rfl, ho⟩) h
open Go.RowKit in
theorem inv_of_below {w w' : World} {g : Gh} {hp : Hp} (hH : HeapRel w g hp) (hb : Below w.heap.size w w') : Inv w g hp w' g := by
 have he : Evo w g w' g := ⟨fun b o' hi => ⟨hi, cell_of_heap (hb.block b (hH.imm b o' hi).1)⟩, fun _ _ h => h, fun _ T h => ⟨T, h, rfl, .inl rfl⟩⟩
 exact (Inv.refl' hH).step (hH.other he rfl rfl (fun n hn => hb.block n (hH.own_lt n hn)) hb.size fun b o ho => .inl ho) he ⟨hb.os, hb.tape, hb.output, hb.size, fun b hb' _ => hb.block b hb'⟩ (fun n hn => .inl hn) (fun n hn => .inl hn) (fun b o ho => .inl ho)
open Go.RowKit in
theorem post_row {w w' : World} {g : Gh} {hp : Hp} (hH : HeapRel w g hp) (hb : Below w.heap.size w w') {α : Type} (enc : α → Value) (dat : α → D) (hd : ∀ w g x, Rel w g (dat x) (enc x)) (h1 : ∀ x, oneC (enc x)) (hc : ∀ x, (enc x).cells = #[enc x])
 {e : TypeId} {v : Value} {l : List α} (hv : w'.ownsRow w.heap.size e 1 v l.length (l.map enc)) : Post w g (fun d h => d = .slice (l.map dat) .no ∧ h = hp) (.returned v) w' := by
 have hi := inv_of_below hH hb
 have hfl : flat (l.map enc) = l.map enc := by
  clear hv
  induction l with
  | nil => rfl
  | cons x l ih => simp only [List.map_cons, flat, hc, ih]; rfl
 obtain ⟨_, hv⟩ := hv
 rcases hv with ⟨rfl, hz⟩ | ⟨b, cap, cur, rfl, k1, k2, k3, k4, k5, k6⟩
 ·have : l = [] := List.eq_nil_of_length_eq_zero hz
  subst this
  refine ⟨_, _, _, g, rfl, ⟨rfl, rfl⟩, hi, ?_⟩
  simp only [Rel]
  exact ⟨⟨0, 0, none⟩, 0, 0, [], .inr ⟨by trivial, by simp, rfl⟩, Nat.le_refl _, RelL.nil, by simp, ⟨fun _ => rfl, by simp [flat]⟩, trivial⟩
 ·have hlt : b < w'.heap.size := (Array.getElem?_eq_some_iff.1 k2).1
  obtain ⟨u1, u2⟩ := hi.more b (fun o => o < l.length) hlt (fun hm => by have := hH.own_lt b hm; omega) k1
  refine ⟨_, _, _, _, rfl, ⟨rfl, rfl⟩, u1, ?_⟩
  simp only [Rel]
  refine ⟨⟨b, 0, none⟩, cap, 1, l.map enc, .inl (by simp), by simpa using k3, relL_row (fun x => hd _ _ x) l, fun y hy => ?_, ⟨fun _ => rfl, fun j y hy => ?_⟩, trivial⟩
  ·obtain ⟨x, _, rfl⟩ := List.mem_map.1 hy
   rw [hc]; rfl
  ·rw [hfl] at hy
   have hj : j < l.length := by have := (List.getElem?_eq_some_iff.1 hy).1; simpa using this
   refine ⟨?_, .inr ⟨rfl, by simpa using hj⟩, ?_⟩
   ·rw [← k6, Nat.mul_one, List.getElem?_take_of_lt hj] at hy
    simp only [World.cell?, k2, Nat.zero_add]
    simpa using hy
   ·obtain ⟨x, _, rfl⟩ := List.mem_map.1 (List.mem_of_getElem? hy)
    exact h1 x
section
variable {P : Mod} {r : List RO} {rq : List (RO × Bool)} {K : St → Prop} {s : St} {dst : Dst}
@[go_sem] theorem o_sgt {u v : List UInt8} : OpS P (.bin .gtr) [.str u, .str v] dst r K s = opsWp P r K (s.put dst (.bool (!(Op.bytesLess u v || u == v)))) := by simp [OpS, OcWp, zAb, isPan, opWp, binWp]
@[go_sem] theorem o_sge {u v : List UInt8} : OpS P (.bin .geq) [.str u, .str v] dst r K s = opsWp P r K (s.put dst (.bool (!(Op.bytesLess u v)))) := by simp [OpS, OcWp, zAb, isPan, opWp, binWp]
@[go_sem] theorem p_sgt {u v : List UInt8} : OpQ P (.bin .gtr) [.str u, .str v] dst rq K s = opsQ P rq K (s.put dst (.bool (!(Op.bytesLess u v || u == v)))) := by simp [OpQ, zAf, zAb, opWp, binWp]
@[go_sem] theorem p_sge {u v : List UInt8} : OpQ P (.bin .geq) [.str u, .str v] dst rq K s = opsQ P rq K (s.put dst (.bool (!(Op.bytesLess u v)))) := by simp [OpQ, zAf, zAb, opWp, binWp]
end
end GoV
end
section
set_option linter.unusedSimpArgs false
set_option linter.unusedVariables false
set_option maxHeartbeats 1000000
namespace GoV
open Go
end GoV
end
section
set_option linter.unusedSimpArgs false
set_option linter.unusedVariables false
namespace GoV
open Go
end GoV
end
section
set_option linter.unusedSimpArgs false
set_option linter.unusedVariables false
namespace GoV
open Go
theorem tw : 1 + 1 = 2 := rfl
theorem sd {W p : Prop} (ws : W) (h : W → p := by
 intro ws
 first | rfl | assumption | omega | ((first | refine ⟨?_, ?_⟩ | skip) <;> first | omega | (simp only [lN, ws] <;> omega)) | (simp [zAh, D.iV, D.cells, D.cL, D.closed, ws]; first | done | omega)) : p := h ws
theorem sh {W p : Prop} (ws : W) (h : W → p := by
 intro ws
 first | rfl | (simp [go_sem, seval, ws] <;> fail)) : p := h ws
theorem sc {W p : Prop} (ws : W) (h : W → p := by
 intro ws
 first | rfl | (simp [D.erL, D.er, D.cL, D.closed, ws] <;> fail)) : p := h ws
theorem sw {W p : Prop} (ws : W) (h : W → p := by
 intro ws
 first | omega | rfl | exact ⟨_, _, rfl⟩ | assumption | (simp only [lN, ws] <;> omega)) : p := h ws
theorem so {p : Prop} (h : p := by exact ⟨by simp, by simp, by simp, by simp⟩) : p := h
theorem wA : (∀ {n : Int}, -9223372036854775808 ≤ n → n ≤ 9223372036854775807 → IntKind.i64.wrap n = n) ∧ (∀ {n : Int}, -2147483648 ≤ n → n ≤ 2147483647 → IntKind.i32.wrap n = n) ∧ (∀ {n : Int}, 0 ≤ n → n ≤ 255 → IntKind.u8.wrap n = n) ∧ (∀ {n : Int}, 0 ≤ n → n ≤ 65535 → IntKind.u16.wrap n = n) ∧ (∀ {n : Int}, 0 ≤ n → n ≤ 4294967295 → IntKind.u32.wrap n = n) ∧ (∀ {n : Int}, 0 ≤ n → n ≤ 18446744073709551615 → IntKind.u64.wrap n = n) := ⟨w64, w32, wu8, wu16, wu32, wu64⟩
inductive SWi (C : Cfg) : RC → (Ex → St → Prop) → St → Prop
 | seq {x y : RC} {Q : Ex → St → Prop} {s : St} (h : SWp C x (fun e s' => match e with | .normal => SWp C y Q s' | e => Q e s') s) : SWi C (.seq x y) Q s
 | reg {ros : List RO} {Q : Ex → St → Prop} {s : St} (h : opsWp C.M ros (fun s' => Q .normal s'.done) s) : SWi C (.reg ros) Q s
 | regD {qs : List (RO × Bool)} {ros : List RO} {Q : Ex → St → Prop} {s : St} (h : opsQ C.M qs (fun s1 => opsWp C.M ros (fun s' => Q .normal s'.done) s1) s) : SWi C (.regD qs ros) Q s
 | block {id : Nat} {x : RC} {Q : Ex → St → Prop} {s : St} (h : SWp C x (fun e s' => match e with | .exit i => if i = id then Q .normal s' else Q (.exit i) s' | e => Q e s') s) : SWi C (.block id x) Q s
 | exit {id : Nat} {Q : Ex → St → Prop} {s : St} (h : Q (.exit id) s) : SWi C (.exit id) Q s
 | scope {x : RC} {Q : Ex → St → Prop} {s : St} (h : SWp C x Q s) : SWi C (.scope x) Q s
 | ret {Q : Ex → St → Prop} {s : St} (h : Q .ret s) : SWi C .ret Q s
 | skip {Q : Ex → St → Prop} {s : St} (h : Q .normal s) : SWi C .skip Q s
 | cd {g : Opd} {x y : RC} {Q : Ex → St → Prop} {s : St} (h : CdS C (s.get g) g x y Q s) : SWi C (.cond g x y) Q s
theorem swq {C : Cfg} {rc : RC} {Q : Ex → St → Prop} {s : St} (h : SWi C rc Q s) : SWp C rc Q s := by
 cases h with
 | seq h => exact swp_seq h
 | reg h => exact swp_reg h
 | regD h => exact swp_regD h
 | block h => exact zEk h
 | exit h => exact swp_exit h
 | scope h => exact swp_scope h
 | ret h => exact swp_ret h
 | skip h => exact swp_skip h
 | cd h => exact swp_cd h
inductive CdI (C : Cfg) : D → Opd → RC → RC → (Ex → St → Prop) → St → Prop
 | dec {p : Prop} {_ : Decidable p} {g : Opd} {x y : RC} {Q : Ex → St → Prop} {s : St} (h1 : p → SWp C x Q (s.setO g (.bool true))) (h2 : ¬p → SWp C y Q (s.setO g (.bool false))) : CdI C (.bool (decide p)) g x y Q s
 | eq {a b : Int} {g : Opd} {x y : RC} {Q : Ex → St → Prop} {s : St} (h1 : a = b → SWp C x Q (s.setO g (.bool true))) (h2 : a ≠ b → SWp C y Q (s.setO g (.bool false))) : CdI C (.bool (a == b)) g x y Q s
 | ne {a b : Int} {g : Opd} {x y : RC} {Q : Ex → St → Prop} {s : St} (h1 : a ≠ b → SWp C x Q (s.setO g (.bool true))) (h2 : a = b → SWp C y Q (s.setO g (.bool false))) : CdI C (.bool (a != b)) g x y Q s
 | any {c : Bool} {g : Opd} {x y : RC} {Q : Ex → St → Prop} {s : St} (h1 : c = true → SWp C x Q (s.setO g (.bool true))) (h2 : c = false → SWp C y Q (s.setO g (.bool false))) : CdI C (.bool c) g x y Q s
theorem cdA {C : Cfg} {b : D} {g : Opd} {x y : RC} {Q : Ex → St → Prop} {s : St} (h : CdI C b g x y Q s) : CdS C b g x y Q s := by
 cases h with
 | dec h1 h2 => exact cd_split (fun h => h1 (of_decide_eq_true h)) (fun h => h2 (of_decide_eq_false h))
 | eq h1 h2 => exact cd_split (fun h => h1 (by simpa using h)) (fun h => h2 (by simpa using h))
 | ne h1 h2 => exact cd_split (fun h => h1 (by simpa using h)) (fun h => h2 (by simpa using h))
 | any h1 h2 => exact cd_split h1 h2
inductive GdI (P : Mod) : D → Opd → Bool → Dst → OC → List Opd → List RO → (St → Prop) → St → Prop
 | dec {p : Prop} {_ : Decidable p} {g : Opd} {want : Bool} {dst : Dst} {oc : OC} {args : List Opd} {r : List RO} {K : St → Prop} {s : St} (h1 : p → GdS P (.bool true) g want dst oc args r K s) (h2 : ¬p → GdS P (.bool false) g want dst oc args r K s) : GdI P (.bool (decide p)) g want dst oc args r K s
 | eq {a b : Int} {g : Opd} {want : Bool} {dst : Dst} {oc : OC} {args : List Opd} {r : List RO} {K : St → Prop} {s : St} (h1 : a = b → GdS P (.bool true) g want dst oc args r K s) (h2 : a ≠ b → GdS P (.bool false) g want dst oc args r K s) : GdI P (.bool (a == b)) g want dst oc args r K s
 | ne {a b : Int} {g : Opd} {want : Bool} {dst : Dst} {oc : OC} {args : List Opd} {r : List RO} {K : St → Prop} {s : St} (h1 : a ≠ b → GdS P (.bool true) g want dst oc args r K s) (h2 : a = b → GdS P (.bool false) g want dst oc args r K s) : GdI P (.bool (a != b)) g want dst oc args r K s
 | any {c : Bool} {g : Opd} {want : Bool} {dst : Dst} {oc : OC} {args : List Opd} {r : List RO} {K : St → Prop} {s : St} (h1 : c = true → GdS P (.bool true) g want dst oc args r K s) (h2 : c = false → GdS P (.bool false) g want dst oc args r K s) : GdI P (.bool c) g want dst oc args r K s
theorem gdA {P : Mod} {b : D} {g : Opd} {want : Bool} {dst : Dst} {oc : OC} {args : List Opd} {r : List RO} {K : St → Prop} {s : St} (h : GdI P b g want dst oc args r K s) : GdS P b g want dst oc args r K s := by
 cases h with
 | dec h1 h2 => exact gd_split (fun h => h1 (of_decide_eq_true h)) (fun h => h2 (of_decide_eq_false h))
 | eq h1 h2 => exact gd_split (fun h => h1 (by simpa using h)) (fun h => h2 (by simpa using h))
 | ne h1 h2 => exact gd_split (fun h => h1 (by simpa using h)) (fun h => h2 (by simpa using h))
 | any h1 h2 => exact gd_split h1 h2
inductive GqI (P : Mod) (qf : Bool) : D → Opd → Bool → Dst → OC → List Opd → List (RO × Bool) → (St → Prop) → St → Prop
 | dec {p : Prop} {_ : Decidable p} {g : Opd} {want : Bool} {dst : Dst} {oc : OC} {args : List Opd} {r : List (RO × Bool)} {K : St → Prop} {s : St} (h1 : p → GdQ P qf (.bool true) g want dst oc args r K s) (h2 : ¬p → GdQ P qf (.bool false) g want dst oc args r K s) : GqI P qf (.bool (decide p)) g want dst oc args r K s
 | eq {a b : Int} {g : Opd} {want : Bool} {dst : Dst} {oc : OC} {args : List Opd} {r : List (RO × Bool)} {K : St → Prop} {s : St} (h1 : a = b → GdQ P qf (.bool true) g want dst oc args r K s) (h2 : a ≠ b → GdQ P qf (.bool false) g want dst oc args r K s) : GqI P qf (.bool (a == b)) g want dst oc args r K s
 | ne {a b : Int} {g : Opd} {want : Bool} {dst : Dst} {oc : OC} {args : List Opd} {r : List (RO × Bool)} {K : St → Prop} {s : St} (h1 : a ≠ b → GdQ P qf (.bool true) g want dst oc args r K s) (h2 : a = b → GdQ P qf (.bool false) g want dst oc args r K s) : GqI P qf (.bool (a != b)) g want dst oc args r K s
 | any {c : Bool} {g : Opd} {want : Bool} {dst : Dst} {oc : OC} {args : List Opd} {r : List (RO × Bool)} {K : St → Prop} {s : St} (h1 : c = true → GdQ P qf (.bool true) g want dst oc args r K s) (h2 : c = false → GdQ P qf (.bool false) g want dst oc args r K s) : GqI P qf (.bool c) g want dst oc args r K s
theorem gqA {P : Mod} {qf : Bool} {b : D} {g : Opd} {want : Bool} {dst : Dst} {oc : OC} {args : List Opd} {r : List (RO × Bool)} {K : St → Prop} {s : St} (h : GqI P qf b g want dst oc args r K s) : GdQ P qf b g want dst oc args r K s := by
 cases h with
 | dec h1 h2 => exact gq_split (fun h => h1 (of_decide_eq_true h)) (fun h => h2 (of_decide_eq_false h))
 | eq h1 h2 => exact gq_split (fun h => h1 (by simpa using h)) (fun h => h2 (by simpa using h))
 | ne h1 h2 => exact gq_split (fun h => h1 (by simpa using h)) (fun h => h2 (by simpa using h))
 | any h1 h2 => exact gq_split h1 h2
structure FnOk (M : Mod) (f : FuncId) (na : Nat) (fn : Func) (E : Nat → Nat → Cfg) (rc : RC) (rs : List RR) : Prop where
 c : ∀ n m, (E n m).M = M ∧ (E n m).n0 = n ∧ (E n m).m0 = m ∧ (E n m).dfs = [] ∧ fn.ntmps = (E n m).nt ∧ (E n m).pers.take na = List.range na ∧ na ≤ (E n m).nt
 hf : M.P.funcs[f]? = some fn
 hb : fn.body = some (fn.body.getD .skip)
 z : ∀ n m, zAe (E n m) (fn.body.getD .skip) = some rc
 zr : ∀ n m, resRs (E n m) fn.results.toList = some rs
 nm : (fn.name == "runtime.NumGoroutine") = false
 bs : ∀ w g, M.base w g
 np : ∀ d hp, ¬ M.pan d hp
theorem fnOk {M : Mod} {f : FuncId} {na : Nat} {fn : Func} {E : Nat → Nat → Cfg} {rc : RC} {rs : List RR} (hf : M.P.funcs[f]? = some fn)
 (hb : fn.body = some (fn.body.getD .skip) := by kernel_rfl) (z : ∀ n m, zAe (E n m) (fn.body.getD .skip) = some rc := by intro n m; kernel_rfl) (zr : ∀ n m, resRs (E n m) fn.results.toList = some rs := by intro n m; kernel_rfl)
 (nm : (fn.name == "runtime.NumGoroutine") = false := by kernel_rfl) (bs : ∀ w g, M.base w g := by exact fun _ _ => trivial) (np : ∀ d hp, ¬ M.pan d hp := by exact fun _ _ h => h)
 (c : ∀ n m, (E n m).M = M ∧ (E n m).n0 = n ∧ (E n m).m0 = m ∧ (E n m).dfs = [] ∧ fn.ntmps = (E n m).nt ∧ (E n m).pers.take na = List.range na ∧ na ≤ (E n m).nt := by intro n m; exact ⟨rfl, rfl, rfl, rfl, by kernel_rfl, rfl, of_decide_eq_true rfl⟩) :
 FnOk M f na fn E rc rs := ⟨c, hf, hb, z, zr, nm, bs, np⟩
section
variable {M : Mod} {f : FuncId} {na : Nat} {fn : Func} {E : Nat → Nat → Cfg} {rc : RC} {rs : List RR}
theorem FnOk.oe (k : FnOk M f na fn E rc rs) {args : List D} {hp : Hp} {R : D → Hp → Prop} (n m : Nat) (hl : args.length = na) (hn : n = hp.H.length) (hm : m = hp.tk.length)
 (h : SWp (E n m) rc (fun e s => (match e with | .exit _ => False | _ => True) ∧ ∃ s1, Weak (E n m) s s1 ∧ rrsWp rs s1 fun ds => R (zBd ds) s1.hp) (St.init (E n m) args hp)) : Eff M f args hp R := by
 obtain ⟨c1, c2, c3, c4, c5, c6, c7⟩ := k.c n m
 have hf := k.hf
 have hb := k.bs
 have hn2 := k.np
 rw [← c1] at hf hb hn2 ⊢
 exact eff_of_body hf k.hb c5 (k.z n m) (k.zr n m) k.nm (by rw [hl]; exact c6) (by rw [hl]; exact c7) (by rw [c2]; exact hn) (by rw [c3]; exact hm) h c4 hb hn2
theorem FnOk.ow (k : FnOk M f na fn E rc rs) {C : Cfg} (hC : E 0 0 = C) {args : List D} {d : D} (hl : args.length = na)
 (h : SWp C rc (fun e s => (match e with | .exit _ => False | _ => True) ∧ ∃ s1, Weak C s s1 ∧ rrsWp rs s1 fun ds => D.closed (zBd ds) = true ∧ (zBd ds).er = d) (St.init C args ⟨[], []⟩)) : Pur M f args d := by
 subst hC
 obtain ⟨c1, c2, c3, c4, c5, c6, c7⟩ := k.c 0 0
 have hf := k.hf
 have hb := k.bs
 have hn2 := k.np
 rw [← c1] at hf hb hn2 ⊢
 exact pur_of_bodyW hf k.hb c5 (k.z 0 0) (k.zr 0 0) k.nm (by rw [hl]; exact c6) (by rw [hl]; exact c7) c2 c3 h c4 hb hn2
theorem FnOk.ok (k : FnOk M f na fn E rc rs) {C : Cfg} (hC : E 0 0 = C) {args : List D} {d : D} (hl : args.length = na)
 (h : SWp C rc (fun e s => (match e with | .exit _ => False | _ => True) ∧ rrsWp rs s fun ds => D.closed (zBd ds) = true ∧ (zBd ds).er = d) (St.init C args ⟨[], []⟩)) : Pur M f args d :=
 k.ow hC hl (swp_mono h fun _ s hq => ⟨s, zAa, hq.1, s, zAa, hq.2⟩)
end
end GoV
end
section
set_option linter.unusedSimpArgs false
set_option linter.unusedVariables false
namespace GoV
open Go
section
variable {P : Mod} {r : List RO} {K : St → Prop} {s : St} {dst : Dst} {ds : List D}
end
def callM (o : Option FuncId) (d : D) (args : List D) : List D :=
 match o with
 | some f => .fn (.func f) [d] [] :: args
 | none => [.u0]
theorem callM_some {f : FuncId} {d : D} {args : List D} : callM (some f) d args = .fn (.func f) [d] [] :: args := by simp [callM]
theorem callDs_iface {P : Mod} {name : String} {t : Nat} {d : D} {args : List D} : zDz P (.inv name) (.iface t d :: args) = callM (zEt P.P t name) d args := by
 simp only [zDz, callM]
 cases zEt P.P t name <;> rfl
section
variable {P : Mod} {r : List RO} {rq : List (RO × Bool)} {K : St → Prop} {s : St} {dst : Dst} {ds : List D}
theorem o_inv {name : String} : OpS P (.inv name) ds dst r K s = OpS P .call (zDz P (.inv name) ds) dst r K s := by
 simp [OpS, OcWp, zAb, zDz]
theorem p_inv {name : String} : OpQ P (.inv name) ds dst rq K s = OpQ P .call (zDz P (.inv name) ds) dst rq K s := by
 simp [OpQ, zAf, zAb, zDz]
theorem c_inv {name : String} : OpC P (.inv name) ds dst rq K s = OpC P .call (zDz P (.inv name) ds) dst rq K s := by
 simp [OpC, detWp, OcWp, zAb, zDz]
end
attribute [go_sem] callM_some callDs_iface o_inv p_inv c_inv
end GoV
end
section
set_option linter.unusedSimpArgs false
set_option linter.unusedVariables false
set_option maxHeartbeats 1000000
namespace GoV
open Go
structure Steady (hpk : Nat → Hp) (n m : Nat) : Prop where
 len : ∀ k, (hpk k).H.length = n
 lent : ∀ k, (hpk k).tk.length = m
 gc : ∀ k (L : List Blk), Hp.cut ⟨(hpk k).H ++ L, (hpk k).tk⟩ n m = hpk k
 sel : ∀ k (L : List Blk), Hp.sel ⟨(hpk k).H ++ L, (hpk k).tk⟩ (List.range n) (List.range m) = hpk k
 bk : ∀ k (L : List Blk), Hp.back ⟨(hpk k).H ++ L, (hpk k).tk⟩ (List.range n) (List.range m) (hpk (k + 1)) = ⟨(hpk (k + 1)).H ++ L, (hpk (k + 1)).tk⟩
section
variable {C : Cfg} {n m : Nat} {Q : Ex → Nat → Nat → St → Prop} {s : St}
end
end GoV
end
section
set_option linter.unusedSimpArgs false
set_option linter.unusedVariables false
namespace GoV
open Go
end GoV
end
section
set_option linter.unusedSimpArgs false
set_option linter.unusedVariables false
namespace GoV
open Go
end GoV
end
section
set_option linter.unusedSimpArgs false
set_option linter.unusedVariables false
namespace GoV
open Go
def agrees (T : List Nat) (a0 a : Act) : Prop := ∀ t ∈ T, a.tmps.getD t Go.undef = a0.tmps.getD t Go.undef
def noW (T : List Nat) (ops : Array Oper) : Bool := ops.all fun o => match o.dst with
 | none => true
 | some t => !T.contains t
def noWC (T : List Nat) : Code → Bool
 | .seq x y => noWC T x && noWC T y
 | .cond _ x y => noWC T x && noWC T y
 | .region _ ops _ => noW T ops
 | .ret => true
 | .skip => true
 | .label _ => true
 | _ => false
def QK (T : List Nat) (a0 : Act) (Q : Exit → Act → World → Prop) : Exit → Act → World → Prop := fun e a w => Q e a w ∧ (e ≠ .outgrown → agrees T a0 a)
structure KWp (C : Cfg) (T : List Nat) (a0 : Act) (rc : RC) (Q : Ex → St → Prop) (s : St) : Prop where
 run : ∀ c, zAe C c = some rc → noWC T c = true → ∀ w0 B, C.M.start w0 B → ∀ a w, Sim C w0 B s a w → agrees T a0 a → wpE C.P c (QK T a0 (Lift C w0 B Q)) a w
section
variable {C : Cfg} {T : List Nat} {a0 : Act} {Q : Ex → St → Prop} {s : St}
end
end GoV
end
section
set_option maxHeartbeats 1000000
set_option linter.unusedSimpArgs false
set_option linter.unusedVariables false
namespace GoV
open Go
def Iter2 (M : Mod) (f : FuncId) (caps : List D) (xs : List (List D)) (hpk hpy : Nat → Hp) : Prop :=
 zBu M f ∧ ∀ (w : World) (g : Gh) (l : Nat), M.amb w g.own → HeapRel w g (hpk 0) →
  (∀ k x, xs[k]? = some x → ∀ w' G vs, Inv w g (hpk k) w' G → RelL w' G x vs → YieldAt Fence.wide 0 M.P l vs.toArray w' (CallPost w g w' G fun d h => d = .bool true ∧ h = hpy k)) →
  ∀ vs, RelL w g caps vs → Calls M.P f (#[.func (.yield l) #[] #[]] ++ vs.toArray) w (Post w g fun _ h => h = hpk xs.length)
theorem zEh {C : Cfg} {f : FuncId} {fn : Func} {c : Code} {rc : RC} (hf : C.P.funcs[f]? = some fn) (hb : fn.body = some c) (hnt : fn.ntmps = C.nt) (hrc : zAe C c = some rc) (hrs : fn.results.toList = [])
 {caps : List D} {xs : List (List D)} {hpk hpy : Nat → Hp} (hname : (fn.name == "runtime.NumGoroutine") = false) (hpl : C.pers.take (caps.length + 1) = List.range (caps.length + 1)) (hlt : caps.length + 1 ≤ C.nt)
 (h : ∀ (b : World → Gh → Prop) (l : Nat), (∀ k x, xs[k]? = some x → YOk (C.M.with b) l x (hpk k) (hpy k)) →
  SWp (C.atB b (hpk 0)) rc (fun e s => (match e with | .exit _ => False | _ => True) ∧ ∃ s1, Weak (C.atB b (hpk 0)) s s1 ∧ s1.hp = hpk xs.length) (St.init C (yldD l :: caps) (hpk 0))) (hpan : ∀ d hp, ¬ C.M.pan d hp := by exact fun _ _ h => h) : Iter2 C.M f caps xs hpk hpy := by
 refine ⟨⟨fn, hf, by simp [hb], hname⟩, fun w g l hA hH hR vs hvs => ?_⟩
 have e : (#[.func (.yield l) #[] #[]] ++ vs.toArray : Array Value) = (Value.func (.yield l) #[] #[] :: vs).toArray := by simp
 rw [e]
 have hs := h (fun w0 B => w0 = w ∧ B = g) l (fun k x hx w0 B hb => by obtain ⟨rfl, rfl⟩ := hb; exact hR k x hx)
 refine body_spec (C := C.atB (fun w0 B => w0 = w ∧ B = g) (hpk 0)) (fn := fn) (c := c) (rc := rc) (rs := []) hf hb hnt
  (zFb hrc rfl rfl rfl) (by rw [hrs]; rfl) (args := yldD l :: caps) (hp := hpk 0) (R := fun _ h => h = hpk xs.length) hpl hlt rfl rfl ?_ rfl hpan ⟨hA, rfl, rfl⟩ hH ?_
 ·exact swp_mono hs fun e s hq => by
   obtain ⟨q1, s1, q2, q3⟩ := hq
   exact ⟨s1, q2, q1, s1, zAa, by simpa [rrsWp] using q3⟩
 ·simp only [RelL]
  exact ⟨_, _, rfl, by simp [yldD, Rel, Value.oneCell'], hvs⟩
section
variable {C : Cfg} {n m : Nat} {Q : Ex → Nat → Nat → St → Prop} {s : St}
theorem twp_range2 {g : Opd} {ps : List Dst} {x y : RC} (hbs : ∀ w g, C.M.base w g) {f : FuncId} {caps : List D} {xs : List (List D)} (hpk hpy : Nat → Hp) (hit : Iter2 C.M f caps xs hpk hpy)
 (hg : s.get g = .fn (.func f) [] caps) (hlen : ∀ r ∈ xs, r.length = ps.length) (h0 : s.hp = hpk 0)
 (hr : ∀ k r, xs[k]? = some r → SWp { C with n0 := (hpk k).H.length, m0 := (hpk k).tk.length, dfs := [] } x (fun e s' => match e with
  | .normal => s'.hp = hpk k ∧ SWp { C with n0 := (hpk k).H.length, m0 := (hpk k).tk.length, dfs := [] } y (fun e s2 => match e with
    | .normal => ∃ s3, Weak { C with n0 := (hpk k).H.length, m0 := (hpk k).tk.length, dfs := [] } s2 s3 ∧ s3.hp = hpy k
    | _ => False) s'
  | _ => False) (binds ps r { s with hp := hpk k }))
 (hd : Q .normal (hpk xs.length).H.length (hpk xs.length).tk.length { s with hp := hpk xs.length }) (hpan : ∀ d hp, ¬ C.M.pan d hp := by exact fun _ _ h => h) : TWp C n m (.rangeF g ps x y) Q s := by
 refine ⟨fun c hc w0 B hA a w hs => ?_⟩
 have hreg : ∀ id ops d, c = .region id ops d → _ := fun id ops d e => zA8 (e ▸ hc)
 cases c <;> (try simp only [zAe] at hc) <;> (try (cases hc; done))
 case region _ ops d => exfalso; have := hreg _ _ _ rfl; simp at this
 case rangeFunc go pa ca cb =>
  cases ho : resO C go with
  | none => simp [ho] at hc
  | some g' =>
    cases hp : zCg C pa.toList with
    | none => simp [ho, hp] at hc
    | some ps' =>
      cases ha : zAe C ca with
      | none => simp [ho, hp, ha] at hc
      | some x' =>
        cases hb : zAe C cb with
        | none => simp [ho, hp, ha, hb] at hc
        | some y' =>
          simp [ho, hp, ha, hb] at hc
          obtain ⟨rfl, rfl, rfl, rfl⟩ := hc
          obtain ⟨w1, B1, hp1, Ds, h1, h2, h3, h4⟩ := hs
          have hA1 := start_up hbs hA h1
          obtain ⟨G, gi, gb, g1, g2, g3, g4⟩ := h4
          have hpl : ps'.length = pa.size := by rw [zFj _ _ hp]; simp
          have hv := zGd g4 (C := { C with n0 := n, m0 := m, dfs := Ds.map mark }) ((zEq rfl rfl go).trans ho)
          rw [hg] at hv
          simp only [Rel] at hv
          obtain ⟨xs0, ys, hev, hx0, hys⟩ := hv
          have hx0 := hx0.inv_nil
          subst hx0
          rw [h0] at gi
          refine wpIn_rangeFunc ?_
          intro fn hfn
          obtain ⟨⟨fd, hfd, hfb, hfn'⟩, hspec⟩ := hit
          obtain ⟨rec, hrec⟩ : ∃ rec : LoopState → Option Code → Loop, rec = fun st pe => { state := st, pending := pe, fn, tmps := a.tmps, params := pa, assign := ca, body := cb, defers := w.heap.size } := ⟨_, rfl⟩
          obtain ⟨W1, hW1⟩ : ∃ W1, (w.alloc (.deferred (some []))).alloc (.loop (rec .ready none)) = W1 := ⟨_, rfl⟩
          have hL1 : W1.heap[w.heap.size + 1]? = some (.loop (rec .ready none)) := by
           rw [← hW1]; have := World.alloc_heap_new (w.alloc (.deferred (some []))) (.loop (rec .ready none)); rwa [World.size_alloc] at this
          have hK1 : W1.heap[w.heap.size]? = some (.deferred (some [])) := by
           rw [← hW1]
           rw [zA2 _ _ _ (by simp)]
           exact World.alloc_heap_new w _
          have hsz1 : W1.heap.size = w.heap.size + 2 := by rw [← hW1]; simp
          obtain ⟨i1, v1⟩ := gi.alloc (.deferred (some []))
          obtain ⟨i2, v2⟩ := i1.alloc (.loop (rec .ready none))
          rw [hW1] at i2 v2
          have hv12 := v1.trans v2
          have hownG : ∀ b ∈ G.own, b < w.heap.size := gi.heap.own_lt
          have iW := Inv.refl' i2.heap
          have hAW : C.M.amb W1 G.own := C.M.up _ _ _ _ hA1.1 i2.keeps i2.new
          refine ⟨w.heap.size + 1, [mark w.heap.size], W1, { target := .fn (.func f) ys.toArray, args := #[.func (.yield (w.heap.size + 1)) #[] #[]] }, W1, f,
           #[.func (.yield (w.heap.size + 1)) #[] #[]] ++ ys.toArray, W1, ?_, ?_, fun _ _ => trivial, ?_, fun hd => by simp [Fence.wide] at hd, ?_⟩
          ·rw [← hW1, hrec]; exact run_enterLoop_outer _ _ _ _ _
          ·simp only [resolve, hev, Deferred.ofValue, Sem.run_pure, Sem.run_bind, Result.andThen_ok]
           simp [Act.eval]
          ·simp only [invoke, callFunc, Sem.run_bind, run_program, Result.andThen_ok]
           simp [hfd, hfb, hfn', Sem.run_pure, Cfg.P]
          ·refine callsIn_wide.2 ?_
           refine (hspec W1 G (w.heap.size + 1) hAW i2.heap ?_ ys (RelL.evo _ hv12 hys)).mono ?_
           ·
            intro k r hk w' G' vs hi hvs
            have hlw : w'.heap[w.heap.size + 1]? = some (.loop (rec .ready none)) := by
             rw [hi.keeps.block _ (by omega) (fun hm => by have := hownG _ hm; omega)]; exact hL1
            have hvl : vs.toArray.size = pa.size := by
             have := hvs.length
             have := hlen r (List.mem_of_getElem? hk)
             simp; omega
            have hy := run_yield (P := C.M.P) (args := vs.toArray) hlw (by rw [hrec]; exact hvl)
            rw [hrec] at hy
            refine ⟨fn, _, ca, cb, hy, roundIn_of_wpIn hfn ?_⟩
            have hev' : Evo w G w' G' := hv12.trans hi.evo
            have ht : (pa.zip vs.toArray).foldl (fun tmps (x : Tmp × Value) => tmps.setIfInBounds x.1 x.2) a.tmps = (pa.toList.zip vs).foldl (fun (tm : Array Value) (p : Nat × Value) => tm.setIfInBounds p.1 p.2) a.tmps := by
             rw [← Array.foldl_toList]; simp
            have hb4 := binds_rel (C := C) pa.toList ps' r vs { s with hp := hpk k } a hp hvs (hlen r (List.mem_of_getElem? hk)) (fun t => Rel.evo _ hev' (g4 t)) g1 g3
            obtain ⟨b1, b2, b3, b4⟩ := hb4
            have hsim : Sim { C with n0 := (hpk k).H.length, m0 := (hpk k).tk.length, dfs := [] } w' G' (binds ps' r { s with hp := hpk k })
             { tmps := (pa.zip vs.toArray).foldl (fun tmps (x : Tmp × Value) => tmps.setIfInBounds x.1 x.2) a.tmps, defers := [] } w' := by
             refine ⟨G', by rw [b4]; exact Inv.refl' hi.heap, ⟨hi.heap.len.symm, hi.heap.lent.symm⟩, by rw [ht]; exact b2, rfl, b3, fun t => ?_⟩
             rw [ht]; exact b1 t
            have hAw' : C.M.start w' G' := ⟨C.M.up _ _ _ _ hAW hi.keeps hi.new, hbs _ _⟩
            have hrun := (hr k r hk).run ca (zFb ha rfl rfl rfl) w' G' hAw' _ w' hsim (some (w.heap.size + 1))
            refine wpIn_mono hrun fun e a1 wa hl => ?_
            cases e <;> simp only [Lift, Exit.then] at hl ⊢ <;> try exact hl.elim
            case panic => obtain ⟨_, _, _, _, _, _, k, _⟩ := hl; exact absurd k (hpan _ _)
            case exit => obtain ⟨_, _, q⟩ := hl; exact q
            case ret => obtain ⟨_, _, q⟩ := hl; exact q
            obtain ⟨s', q1, q2, q3⟩ := hl
            obtain ⟨Ga, qi, qb, p1, p2, p3, p4⟩ := q1
            rw [q2] at qi
            have hownG' : ∀ b ∈ G'.own, b ≠ w.heap.size + 1 ∧ b ≠ w.heap.size := fun b hb => by
             rcases hi.new b hb with h | h
             ·have := hownG b h; omega
             ·omega
            have hownGa : ∀ b ∈ Ga.own, b ≠ w.heap.size + 1 ∧ b ≠ w.heap.size := fun b hb => by
             rcases qi.new b hb with h | h
             ·exact hownG' b h
             ·have := hi.keeps.size; omega
            have hla : wa.heap[w.heap.size + 1]? = some (.loop (rec .ready none)) := by
             rw [qi.keeps.block _ (Array.getElem?_eq_some_iff.1 hlw).1 (fun hm => (hownG' _ hm).1 rfl)]; exact hlw
            refine ⟨_, run_beginRound hla (by rw [hrec]), ?_⟩
            have t1 : Turn wa (wa.putObj (w.heap.size + 1) (.loop { rec .ready none with state := .busy })) (w.heap.size + 1) := Turn.put hla rfl rfl
            obtain ⟨W2, hW2⟩ : ∃ W2, wa.putObj (w.heap.size + 1) (.loop { rec .ready none with state := .busy }) = W2 := ⟨_, rfl⟩
            rw [hW2] at t1 ⊢
            have hl2 : W2.heap[w.heap.size + 1]? = some (.loop { rec .ready none with state := .busy }) := by
             rw [← hW2]; exact World.putObj_heap_same (Array.getElem?_eq_some_iff.1 hla).1
            have hh2 : HeapRel W2 Ga (hpk k) := t1.heap (fun hm => (hownGa _ hm).1 rfl) qi.heap
            have hAa : C.M.start wa Ga := ⟨C.M.up _ _ _ _ hAw'.1 qi.keeps qi.new, hbs _ _⟩
            have kw : Keeps w wa G.own := (((Keeps.alloc w _ _).trans (by rw [← hW1]; exact Keeps.alloc _ _ _)).trans hi.keeps).trans' qi.keeps (fun b hb => (hi.new b hb).imp id (fun h => by omega))
            have hA2 : C.M.start W2 Ga := by
             refine ⟨C.M.up w G.own _ _ (start_up hbs hA1 gi).1 ⟨t1.os.trans kw.os, t1.tape.trans kw.tape, t1.output.trans kw.output, by rw [t1.size]; exact kw.size, fun b hb hn => (t1.block b (by omega)).trans (kw.block b hb hn)⟩ fun b hb => ?_, hbs _ _⟩
             rcases qi.new b hb with h | h
             ·exact (hi.new b h).imp id (fun h => by omega)
             ·right; have := hi.keeps.size; omega
            have hsim2 : Sim { C with n0 := (hpk k).H.length, m0 := (hpk k).tk.length, dfs := [] } W2 Ga s' a1 W2 :=
             ⟨Ga, by rw [q2]; exact Inv.refl' hh2, ⟨hh2.len.symm, hh2.lent.symm⟩, p1, p2, p3, fun t => Rel.evo _ (t1.evo Ga) (p4 t)⟩
            have hrun2 := q3.run cb (zFb hb rfl rfl rfl) W2 Ga hA2 _ W2 hsim2 (some (w.heap.size + 1))
            refine wpIn_mono hrun2 fun e a3 w3 hl => ?_
            cases e <;> simp only [Lift, roundPost] at hl ⊢ <;> try exact hl.elim
            case panic => obtain ⟨_, _, _, _, _, _, k, _⟩ := hl; exact absurd k (hpan _ _)
            case exit => obtain ⟨_, _, q⟩ := hl; exact q.elim
            case ret => obtain ⟨_, _, q⟩ := hl; exact q.elim
            obtain ⟨s2, z1, s3, z2, z3⟩ := hl
            obtain ⟨G3, zi, _⟩ := z2 _ _ _ _ z1
            rw [z3] at zi
            have hl3 : w3.heap[w.heap.size + 1]? = some (.loop { rec .ready none with state := .busy }) := by
             rw [zi.keeps.block _ (Array.getElem?_eq_some_iff.1 hl2).1 (fun hm => (hownGa _ hm).1 rfl)]; exact hl2
            have hend := run_endRound (P := C.P) none hl3
            refine ⟨_, _, hend, ?_⟩
            have hsz2 : wa.heap.size = W2.heap.size := t1.size.symm
            have hG3 : w.heap.size + 1 ∉ G3.own := fun hm => by
             rcases zi.new _ hm with h | h
             ·exact (hownGa _ h).1 rfl
             ·have := (Array.getElem?_eq_some_iff.1 hl2).1; omega
            have t3 := Turn.put (o' := .loop { { rec .ready none with state := .busy } with state := if (none : Option Code).isNone then .ready else .done, pending := none }) hl3 rfl rfl
            have hl4 : (w3.putObj (w.heap.size + 1) (.loop { { rec .ready none with state := .busy } with state := if (none : Option Code).isNone then .ready else .done, pending := none })).heap[w.heap.size + 1]? = some (.loop (rec .ready none)) := by
             rw [World.putObj_heap_same (Array.getElem?_eq_some_iff.1 hl3).1, hrec]; rfl
            obtain ⟨W4, hW4⟩ : ∃ W4, w3.putObj (w.heap.size + 1) (.loop { { rec .ready none with state := .busy } with state := if (none : Option Code).isNone then .ready else .done, pending := none }) = W4 := ⟨_, rfl⟩
            rw [hW4] at t3 hl4 ⊢
            have ev4 : Evo wa Ga W4 G3 := ((t1.evo Ga).trans zi.evo).trans (t3.evo G3)
            have k4 : Keeps wa W4 Ga.own := by
             refine ⟨?_, ?_, ?_, ?_, fun b hb hn => ?_⟩
             ·exact t3.os.trans (zi.keeps.os.trans t1.os)
             ·exact t3.tape.trans (zi.keeps.tape.trans t1.tape)
             ·exact t3.output.trans (zi.keeps.output.trans t1.output)
             ·rw [t3.size]; have := zi.keeps.size; omega
             ·by_cases e : b = w.heap.size + 1
              ·rw [e, hl4, hla]
              ·rw [t3.block b e, zi.keeps.block b (by omega) hn, t1.block b e]
            have i4 : Inv wa Ga (hpy k) W4 G3 := ⟨t3.heap hG3 zi.heap, ev4, k4, fun b hb => (zi.newr b hb).imp id (fun h => by omega), fun b hb => (zi.newt b hb).imp id (fun h => by omega), fun b o hb => (zi.i1 b o hb).imp id (fun h => h.imp (fun h => by omega) id)⟩
            exact ⟨_, _, _, G3, rfl, ⟨rfl, rfl⟩, hi.join (qi.join i4), qi.evo.trans ev4, by simp [Rel]⟩
           ·
            rintro e w5 ⟨v, d, hp5, G5, rfl, rfl, j1, j2⟩
            have hl5 : w5.heap[w.heap.size + 1]? = some (.loop (rec .ready none)) := by
             rw [j1.keeps.block _ (by omega) (fun hm => by have := hownG _ hm; omega)]; exact hL1
            have hk5 : w5.heap[w.heap.size]? = some (.deferred (some [])) := by
             rw [j1.keeps.block _ (by omega) (fun hm => by have := hownG _ hm; omega)]; exact hK1
            have hG5 : ∀ b, b ∈ G5.own → b ≠ w.heap.size + 1 ∧ b ≠ w.heap.size := fun b hb => by
             rcases j1.new b hb with h | h
             ·have := hownG b h; omega
             ·omega
            refine ⟨none, _, by have := run_endLoop (P := C.P) hl5 (by rw [hrec]; simp); rw [hrec] at this; exact this, ?_⟩
            have t6 := Turn.put (o' := .loop { rec .ready none with state := .exhausted }) hl5 rfl rfl
            rw [hrec] at t6
            obtain ⟨W6, hW6⟩ : ∃ W6, w5.putObj (w.heap.size + 1) (.loop { state := .exhausted, pending := none, fn, tmps := a.tmps, params := pa, assign := ca, body := cb, defers := w.heap.size }) = W6 := ⟨_, rfl⟩
            have i5 : Inv w0 B (hpk xs.length) w5 G5 := h1.join (i2.join j1)
            have hw0 : w0.heap.size ≤ w.heap.size := Nat.le_trans h1.keeps.size gi.keeps.size
            simp only [] at t6 ⊢
            rw [hW6] at t6 ⊢
            have i6 : Inv w0 B (hpk xs.length) W6 G5 := t6.inv (fun hm => (hG5 _ hm).1 rfl) (by omega) i5
            have e6 : Evo w G W6 G5 := (hv12.trans j1.evo).trans (t6.evo G5)
            simp only [LiftT]
            refine ⟨_, _, _, ⟨W6, G5, _, w.heap.size :: Ds, i6, ?_, ?_, ?_⟩, hd⟩
            ·refine List.nodup_cons.2 ⟨fun hm => ?_, h2⟩
             have := (Array.getElem?_eq_some_iff.1 (h3 _ hm).1).1
             have := gi.keeps.size
             omega
            ·intro D hD
             rcases List.mem_cons.1 hD with rfl | hD
             ·exact ⟨by rw [t6.block _ (by omega)]; exact hk5, fun hm => (hG5 _ hm).2 rfl, hw0⟩
             ·obtain ⟨d1, d2, d3⟩ := h3 D hD
              have dl := (Array.getElem?_eq_some_iff.1 d1).1
              have dl2 := gi.keeps.size
              have dG : D ∉ G.own := fun hm => by
               rcases gi.new D hm with h | h
               ·exact d2 h
               ·omega
              refine ⟨?_, fun hm => ?_, d3⟩
              ·rw [t6.block _ (by omega), j1.keeps.block _ (by omega) dG, i2.keeps.block _ (by omega) d2, d1]
              ·rcases j1.new D hm with h | h
               ·exact dG h
               ·omega
            ·refine ⟨G5, Inv.refl' i6.heap, ⟨i6.heap.len.symm, i6.heap.lent.symm⟩, g1, ?_, g3, fun t => Rel.evo _ e6 (g4 t)⟩
             simp [g2, mark]
 all_goals exfalso; (repeat' split at hc) <;> simp_all
end
section
variable {P : Mod} {r : List RO} {rq : List (RO × Bool)} {K : St → Prop} {s : St} {dst : Dst} {ds : List D}
theorem p_eff {f : FuncId} {first cap ds' : List D} {hp0 : Hp} {d : D} (bl tl : List Nat) (h : Eff P f ds' hp0 fun d' hp' => d' = d ∧ hp' = hp0) (hs : SelOk s.hp bl tl) (hd : D.rnL (posF bl) (posF tl) (first ++ ds ++ cap) = ds') (hh : s.hp.sel bl tl = hp0)
 (hb : s.hp.back bl tl hp0 = s.hp) (hk : opsQ P rq K (s.put dst (d.rn (bakF bl s.hp.H.length) (bakF tl s.hp.tk.length)))) : OpQ P .call (.fn (.func f) first cap :: ds) dst rq K s := by
 unfold OpQ zAf CallQ
 simp only [zAb, if_true]
 exact ⟨_, call_eff bl tl h hs hd hh (by rintro d' hp' ⟨rfl, rfl⟩; exact ⟨rfl, hb⟩), hk⟩
end
theorem weak_newG {C : Cfg} {s : St} (b off k : Nat) (hk : 0 < k) {cs : List D} (hb : s.hp.H[b]? = some (.cells cs)) (hc : cs[off]? = some (.lit (.slice none 0 0))) :
 Weak C s ⟨s.env, s.scr, ⟨s.hp.H.set b (.cells (cs.set off (.gs s.hp.tk.length 0))), s.hp.tk ++ [.chg k []]⟩⟩ := by
 intro w0 B a w h
 obtain ⟨G, g0, gb, g1, g2, g3, g4⟩ := h
 obtain ⟨q1, q2⟩ := g0.tokFull (len := 0) (a := none) hk (.chg k []) (.inr ⟨rfl, rfl, rfl⟩)
 obtain ⟨n, hn⟩ : ∃ n, G.r[b]? = some n := by
  have hl := zAd hb
  rw [g0.heap.len] at hl
  exact ⟨_, List.getElem?_eq_getElem hl⟩
 obtain ⟨xs, e, k1, k2, k3⟩ := g0.heap.blk b _ n hb hn
 obtain ⟨x, hx, hrx⟩ := k2.get hc
 simp only [Rel] at hrx
 obtain ⟨rfl, _⟩ := hrx
 have hgs : Rel w (G.tok ⟨none, none, 0, k, 0⟩) (.gs s.hp.tk.length 0) (.slice none 0 0) := by
  simp only [Rel]
  rw [g0.heap.lent]
  exact ⟨none, 0, _, rfl, fun _ => trivial, zDp _ _, Nat.zero_le _, fun _ => ⟨rfl, rfl, fun h => absurd h (by omega)⟩⟩
 have hset : xs.set off (.slice none 0 0) = xs := by
  apply List.ext_getElem?
  intro i
  rw [List.getElem?_set]
  split
  ·rename_i e; subst e; rw [hx]; split <;> simp_all [zAd hx]
  ·rfl
 obtain ⟨u1, u2⟩ := q1.write (w' := w) b n hn ⟨_, hb, by simp⟩ (.cells (cs.set off (.gs s.hp.tk.length 0)))
  (fun w1 g1 he => by
   rw [k1]
   refine ⟨xs, e, rfl, ?_, k3⟩
   have := (RelL.evo _ he (RelL.evo _ q2 k2)).set off (Rel.evo _ he hgs)
   rw [hset] at this
   exact this)
  (fun _ _ => rfl) rfl rfl rfl rfl
 refine ⟨_, u1, gb, g1, g2, g3, fun t => ?_⟩
 have h4 := g4 t
 unfold St.slot at *
 split
 ·rename_i j hj
  rw [hj] at h4
  exact Rel.evo _ u2 (Rel.evo _ q2 h4)
 ·rename_i hj
  rw [hj] at h4
  exact Rel.evo _ u2 (Rel.evo _ q2 h4)
end GoV
end
section
namespace Go.Proofs
open Go.Shelf
def Tryz.lays169_ren : Go.Shelf.Ren := ⟨fun | 169 => 88 | n => n, fun | 70 => 136 | 9 => 9 | 0 => 0 | 72 => 138 | 37 => 50 | 127 => 158 | 3 => 3 | 5 => 5 | n => n, fun | n => n⟩
theorem Tryz.lays169 : Go.Proofs.Lays.n169 Tryz.prog Tryz.lays169_ren := {
 mixed := by kernel_rfl
 f169 := Tryz.func88.trans (congrArg some (by kernel_rfl))
 t0 := Tryz.underlying0
 a0 := Tryz.isAgg0
 z0 := Tryz.sizeOf0
 v0 := Tryz.zeroValue0
 t3 := Tryz.underlying3
 a3 := Tryz.isAgg3
 z3 := Tryz.sizeOf3
 v3 := Tryz.zeroValue3
 t9 := Tryz.underlying9
 a9 := Tryz.isAgg9
 z9 := Tryz.sizeOf9
 v9 := Tryz.zeroValue9
 t37 := Tryz.underlying50
 a37 := Tryz.isAgg50
 z37 := Tryz.sizeOf50
 v37 := Tryz.zeroValue50
 t70 := Tryz.underlying136
 a70 := Tryz.isAgg136
 z70 := Tryz.sizeOf136
 v70 := Tryz.zeroValue136
 t72 := Tryz.underlying138
 a72 := Tryz.isAgg138
 z72 := Tryz.sizeOf138
 v72 := Tryz.zeroValue138
 t127 := Tryz.underlying158
 a127 := Tryz.isAgg158
 z127 := Tryz.sizeOf158
 v127 := Tryz.zeroValue158 }
theorem Tryz.Builder_Extra_169 : Builder.Extra Tryz.prog Tryz.lays169_ren := {
 sizeBuilder := by kernel_rfl
 liesBuilder := by kernel_rfl
 t5 := Tryz.underlying5
 a5 := Tryz.isAgg5
 z5 := Tryz.sizeOf5
 v5 := Tryz.zeroValue5
 infoByte := by kernel_rfl
 cellsByte := by kernel_rfl
 sizeByte := by kernel_rfl
 neB5 := by decide }
def Tryz.laysM171_ren : Go.Shelf.Ren := ⟨fun | 171 => 98 | 243 => 128 | 246 => 158 | 283 => 178 | 284 => 179 | 285 => 180 | 286 => 181 | 129 => 157 | 317 => 191 | 318 => 192 | 319 => 193 | 320 => 194 | 337 => 198 | 338 => 199 | n => n, fun | 3 => 3 | 9 => 9 | 2 => 2 | 4 => 4 | 171 => 215 | 0 => 0 | 53 => 93 | 37 => 50 | 5 => 5 | 173 => 217 | 212 => 229 | 51 => 191 | 20 => 20 | 213 => 230 | 46 => 150 | 232 => 234 | 233 => 235 | n => n, fun | 17 => 3 | 18 => 4 | 19 => 5 | n => n⟩
theorem Tryz.laysM171 : Go.Proofs.LaysM.n171 Tryz.prog Tryz.laysM171_ren := {
 mixed := by kernel_rfl
 f129 := Tryz.func157.trans (congrArg some (by kernel_rfl))
 f171 := Tryz.func98.trans (congrArg some (by kernel_rfl))
 f243 := Tryz.func128.trans (congrArg some (by kernel_rfl))
 f246 := Tryz.func158.trans (congrArg some (by kernel_rfl))
 f283 := Tryz.func178.trans (congrArg some (by kernel_rfl))
 f284 := Tryz.func179.trans (congrArg some (by kernel_rfl))
 f285 := Tryz.func180.trans (congrArg some (by kernel_rfl))
 f286 := Tryz.func181.trans (congrArg some (by kernel_rfl))
 f317 := Tryz.func191.trans (congrArg some (by kernel_rfl))
 f318 := Tryz.func192.trans (congrArg some (by kernel_rfl))
 f319 := Tryz.func193.trans (congrArg some (by kernel_rfl))
 f320 := Tryz.func194.trans (congrArg some (by kernel_rfl))
 f337 := Tryz.func198.trans (congrArg some (by kernel_rfl))
 f338 := Tryz.func199.trans (congrArg some (by kernel_rfl))
 t0 := Tryz.underlying0
 a0 := Tryz.isAgg0
 z0 := Tryz.sizeOf0
 v0 := Tryz.zeroValue0
 t2 := Tryz.underlying2
 a2 := Tryz.isAgg2
 z2 := Tryz.sizeOf2
 v2 := Tryz.zeroValue2
 t3 := Tryz.underlying3
 a3 := Tryz.isAgg3
 z3 := Tryz.sizeOf3
 v3 := Tryz.zeroValue3
 t4 := Tryz.underlying4
 a4 := Tryz.isAgg4
 z4 := Tryz.sizeOf4
 v4 := Tryz.zeroValue4
 t5 := Tryz.underlying5
 a5 := Tryz.isAgg5
 z5 := Tryz.sizeOf5
 v5 := Tryz.zeroValue5
 t9 := Tryz.underlying9
 a9 := Tryz.isAgg9
 z9 := Tryz.sizeOf9
 v9 := Tryz.zeroValue9
 t20 := Tryz.underlying20
 a20 := Tryz.isAgg20
 z20 := Tryz.sizeOf20
 v20 := Tryz.zeroValue20
 t37 := Tryz.underlying50
 a37 := Tryz.isAgg50
 z37 := Tryz.sizeOf50
 v37 := Tryz.zeroValue50
 t46 := Tryz.underlying150
 a46 := Tryz.isAgg150
 z46 := Tryz.sizeOf150
 v46 := Tryz.zeroValue150
 t51 := Tryz.underlying191
 a51 := Tryz.isAgg191
 z51 := Tryz.sizeOf191
 v51 := Tryz.zeroValue191
 t53 := Tryz.underlying93
 a53 := Tryz.isAgg93
 z53 := Tryz.sizeOf93
 v53 := Tryz.zeroValue93
 t171 := Tryz.underlying215
 a171 := Tryz.isAgg215
 z171 := Tryz.sizeOf215
 v171 := Tryz.zeroValue215
 t173 := Tryz.underlying217
 a173 := Tryz.isAgg217
 z173 := Tryz.sizeOf217
 v173 := Tryz.zeroValue217
 t212 := Tryz.underlying229
 a212 := Tryz.isAgg229
 z212 := Tryz.sizeOf229
 v212 := Tryz.zeroValue229
 t213 := Tryz.underlying230
 a213 := Tryz.isAgg230
 z213 := Tryz.sizeOf230
 t232 := Tryz.underlying234
 a232 := Tryz.isAgg234
 z232 := Tryz.sizeOf234
 v232 := Tryz.zeroValue234
 t233 := Tryz.underlying235
 a233 := Tryz.isAgg235
 z233 := Tryz.sizeOf235
 v233 := Tryz.zeroValue235
 g17 := by kernel_rfl
 g18 := by kernel_rfl
 g19 := by kernel_rfl
 i0 := by kernel_rfl
 i2 := by kernel_rfl
 i3 := by kernel_rfl
 i4 := by kernel_rfl
 i5 := by kernel_rfl
 i9 := by kernel_rfl
 i20 := by kernel_rfl
 i37 := by kernel_rfl
 i46 := by kernel_rfl
 i51 := by kernel_rfl
 i53 := by kernel_rfl
 i171 := by kernel_rfl
 i173 := by kernel_rfl
 i212 := by kernel_rfl
 i232 := by kernel_rfl
 i233 := by kernel_rfl
 m17 := by kernel_rfl
 m18 := by kernel_rfl
 m19 := by kernel_rfl }
open Go.RowKit Go.Sort Go.Lib in
theorem Tryz.strconv_Itoa (n : Int) (h0 : -9223372036854775808 ≤ n) (h1 : n ≤ 9223372036854775807) (w : World) (htab : Lib.TabIs Tryz.prog w "internal/strconv.uint64pow10" .u64 Lib.pow10Tab) :
 Calls Tryz.prog 98 #[.int .i64 n] w fun e w' => e = .returned (.string ⟨(Lib.itoa n).toArray⟩) ∧ ∃ k os, w' = grow (w.drewN k) os := Any.strconv_Itoa Tryz.laysM171 n h0 h1 w htab
def Tryz.laysC172_ren : Go.Shelf.Ren := ⟨fun | 172 => 82 | 244 => 114 | 245 => 115 | 247 => 138 | 279 => 139 | 280 => 140 | 281 => 141 | 282 => 142 | 287 => 168 | 316 => 169 | 171 => 98 | 205 => 170 | 321 => 184 | 322 => 185 | 243 => 128 | 246 => 158 | 283 => 178 | 284 => 179 | 285 => 180 | 286 => 181 | 129 => 157 | 317 => 191 | 318 => 192 | 319 => 193 | 320 => 194 | 337 => 198 | 338 => 199 | n => n, fun | 9 => 9 | 3 => 3 | 75 => 132 | 76 => 133 | 4 => 4 | 5 => 5 | 167 => 173 | 37 => 50 | 0 => 0 | 85 => 174 | 2 => 2 | 168 => 176 | 53 => 93 | 175 => 203 | 46 => 150 | 210 => 206 | 127 => 158 | 145 => 222 | 143 => 220 | 21 => 21 | 171 => 215 | 173 => 217 | 212 => 229 | 51 => 191 | 20 => 20 | 213 => 230 | 232 => 234 | 233 => 235 | 80 => 46 | n => n, fun | 15 => 0 | 16 => 1 | 17 => 3 | 18 => 4 | 19 => 5 | n => n⟩
theorem Tryz.laysC172 : Go.Proofs.LaysC.n172 Tryz.prog Tryz.laysC172_ren := {
 mixed := by kernel_rfl
 f129 := Tryz.func157.trans (congrArg some (by kernel_rfl))
 f171 := Tryz.func98.trans (congrArg some (by kernel_rfl))
 f172 := Tryz.func82.trans (congrArg some (by kernel_rfl))
 f205 := Tryz.func170.trans (congrArg some (by kernel_rfl))
 f243 := Tryz.func128.trans (congrArg some (by kernel_rfl))
 f244 := Tryz.func114.trans (congrArg some (by kernel_rfl))
 f245 := Tryz.func115.trans (congrArg some (by kernel_rfl))
 f246 := Tryz.func158.trans (congrArg some (by kernel_rfl))
 f247 := Tryz.func138.trans (congrArg some (by kernel_rfl))
 f279 := Tryz.func139.trans (congrArg some (by kernel_rfl))
 f280 := Tryz.func140.trans (congrArg some (by kernel_rfl))
 f281 := Tryz.func141.trans (congrArg some (by kernel_rfl))
 f282 := Tryz.func142.trans (congrArg some (by kernel_rfl))
 f283 := Tryz.func178.trans (congrArg some (by kernel_rfl))
 f284 := Tryz.func179.trans (congrArg some (by kernel_rfl))
 f285 := Tryz.func180.trans (congrArg some (by kernel_rfl))
 f286 := Tryz.func181.trans (congrArg some (by kernel_rfl))
 f287 := Tryz.func168.trans (congrArg some (by kernel_rfl))
 f316 := Tryz.func169.trans (congrArg some (by kernel_rfl))
 f317 := Tryz.func191.trans (congrArg some (by kernel_rfl))
 f318 := Tryz.func192.trans (congrArg some (by kernel_rfl))
 f319 := Tryz.func193.trans (congrArg some (by kernel_rfl))
 f320 := Tryz.func194.trans (congrArg some (by kernel_rfl))
 f321 := Tryz.func184.trans (congrArg some (by kernel_rfl))
 f322 := Tryz.func185.trans (congrArg some (by kernel_rfl))
 f337 := Tryz.func198.trans (congrArg some (by kernel_rfl))
 f338 := Tryz.func199.trans (congrArg some (by kernel_rfl))
 t0 := Tryz.underlying0
 a0 := Tryz.isAgg0
 z0 := Tryz.sizeOf0
 v0 := Tryz.zeroValue0
 t2 := Tryz.underlying2
 a2 := Tryz.isAgg2
 z2 := Tryz.sizeOf2
 v2 := Tryz.zeroValue2
 t3 := Tryz.underlying3
 a3 := Tryz.isAgg3
 z3 := Tryz.sizeOf3
 v3 := Tryz.zeroValue3
 t4 := Tryz.underlying4
 a4 := Tryz.isAgg4
 z4 := Tryz.sizeOf4
 v4 := Tryz.zeroValue4
 t5 := Tryz.underlying5
 a5 := Tryz.isAgg5
 z5 := Tryz.sizeOf5
 v5 := Tryz.zeroValue5
 t9 := Tryz.underlying9
 a9 := Tryz.isAgg9
 z9 := Tryz.sizeOf9
 v9 := Tryz.zeroValue9
 t20 := Tryz.underlying20
 a20 := Tryz.isAgg20
 z20 := Tryz.sizeOf20
 v20 := Tryz.zeroValue20
 t21 := Tryz.underlying21
 a21 := Tryz.isAgg21
 z21 := Tryz.sizeOf21
 v21 := Tryz.zeroValue21
 t37 := Tryz.underlying50
 a37 := Tryz.isAgg50
 z37 := Tryz.sizeOf50
 v37 := Tryz.zeroValue50
 t46 := Tryz.underlying150
 a46 := Tryz.isAgg150
 z46 := Tryz.sizeOf150
 v46 := Tryz.zeroValue150
 t51 := Tryz.underlying191
 a51 := Tryz.isAgg191
 z51 := Tryz.sizeOf191
 v51 := Tryz.zeroValue191
 t53 := Tryz.underlying93
 a53 := Tryz.isAgg93
 z53 := Tryz.sizeOf93
 v53 := Tryz.zeroValue93
 t75 := Tryz.underlying132
 a75 := Tryz.isAgg132
 z75 := Tryz.sizeOf132
 v75 := Tryz.zeroValue132
 t76 := Tryz.underlying133
 a76 := Tryz.isAgg133
 z76 := Tryz.sizeOf133
 v76 := Tryz.zeroValue133
 t85 := Tryz.underlying174
 a85 := Tryz.isAgg174
 z85 := Tryz.sizeOf174
 v85 := Tryz.zeroValue174
 t127 := Tryz.underlying158
 a127 := Tryz.isAgg158
 z127 := Tryz.sizeOf158
 v127 := Tryz.zeroValue158
 t143 := Tryz.underlying220
 a143 := Tryz.isAgg220
 z143 := Tryz.sizeOf220
 v143 := Tryz.zeroValue220
 t145 := Tryz.underlying222
 a145 := Tryz.isAgg222
 z145 := Tryz.sizeOf222
 v145 := Tryz.zeroValue222
 t167 := Tryz.underlying173
 a167 := Tryz.isAgg173
 z167 := Tryz.sizeOf173
 v167 := Tryz.zeroValue173
 t168 := Tryz.underlying176
 a168 := Tryz.isAgg176
 z168 := Tryz.sizeOf176
 v168 := Tryz.zeroValue176
 t171 := Tryz.underlying215
 a171 := Tryz.isAgg215
 z171 := Tryz.sizeOf215
 v171 := Tryz.zeroValue215
 t173 := Tryz.underlying217
 a173 := Tryz.isAgg217
 z173 := Tryz.sizeOf217
 v173 := Tryz.zeroValue217
 t175 := Tryz.underlying203
 a175 := Tryz.isAgg203
 z175 := Tryz.sizeOf203
 v175 := Tryz.zeroValue203
 t210 := Tryz.underlying206
 a210 := Tryz.isAgg206
 z210 := Tryz.sizeOf206
 v210 := Tryz.zeroValue206
 t212 := Tryz.underlying229
 a212 := Tryz.isAgg229
 z212 := Tryz.sizeOf229
 v212 := Tryz.zeroValue229
 t213 := Tryz.underlying230
 a213 := Tryz.isAgg230
 z213 := Tryz.sizeOf230
 t232 := Tryz.underlying234
 a232 := Tryz.isAgg234
 z232 := Tryz.sizeOf234
 v232 := Tryz.zeroValue234
 t233 := Tryz.underlying235
 a233 := Tryz.isAgg235
 z233 := Tryz.sizeOf235
 v233 := Tryz.zeroValue235
 g15 := by kernel_rfl
 g16 := by kernel_rfl
 g17 := by kernel_rfl
 g18 := by kernel_rfl
 g19 := by kernel_rfl
 t80 := Tryz.underlying46
 a80 := Tryz.isAgg46
 z80 := Tryz.sizeOf46
 v80 := Tryz.zeroValue46
 i0 := by kernel_rfl
 i2 := by kernel_rfl
 i3 := by kernel_rfl
 i4 := by kernel_rfl
 i5 := by kernel_rfl
 i9 := by kernel_rfl
 i20 := by kernel_rfl
 i21 := by kernel_rfl
 i37 := by kernel_rfl
 i46 := by kernel_rfl
 i51 := by kernel_rfl
 i53 := by kernel_rfl
 i75 := by kernel_rfl
 i76 := by kernel_rfl
 i80 := by kernel_rfl
 i85 := by kernel_rfl
 i127 := by kernel_rfl
 i143 := by kernel_rfl
 i145 := by kernel_rfl
 i167 := by kernel_rfl
 i168 := by kernel_rfl
 i171 := by kernel_rfl
 i173 := by kernel_rfl
 i175 := by kernel_rfl
 i210 := by kernel_rfl
 i212 := by kernel_rfl
 i232 := by kernel_rfl
 i233 := by kernel_rfl
 m15 := by kernel_rfl
 m16 := by kernel_rfl
 m17 := by kernel_rfl
 m18 := by kernel_rfl
 m19 := by kernel_rfl
 c0 := by kernel_rfl
 c2 := by kernel_rfl
 c3 := by kernel_rfl
 c4 := by kernel_rfl
 c5 := by kernel_rfl
 c9 := by kernel_rfl
 c20 := by kernel_rfl
 c21 := by kernel_rfl
 c37 := by kernel_rfl
 c46 := by kernel_rfl
 c51 := by kernel_rfl
 c53 := by kernel_rfl
 c75 := by kernel_rfl
 c76 := by kernel_rfl
 c80 := by kernel_rfl
 c85 := by kernel_rfl
 c127 := by kernel_rfl
 c143 := by kernel_rfl
 c145 := by kernel_rfl
 c167 := by kernel_rfl
 c168 := by kernel_rfl
 c171 := by kernel_rfl
 c173 := by kernel_rfl
 c175 := by kernel_rfl
 c210 := by kernel_rfl
 c212 := by kernel_rfl
 c213 := by kernel_rfl
 c232 := by kernel_rfl
 c233 := by kernel_rfl }
open Go.RowKit in
theorem Tryz.strconv_Atoi_ok (s : ByteArray) (hmax : s.size ≤ 9223372036854775806) (v : Int) (h : Lib.atoiAll s.data.toList = .ok v) (w : World) :
 Calls Tryz.prog 82 #[.string s] w fun e w' => e = .returned (.tuple #[.int .i64 v, .nilIface]) ∧ (w' = w ∨ ∃ t, w' = Lib.bytesWorld w 5 t) := Any.strconv_Atoi_ok Tryz.laysC172 s hmax v h w
open Go.RowKit in
theorem Tryz.strconv_Atoi_syntax (s : ByteArray) (hlim : s.size ≤ 281474976710656) (h : Lib.atoiAll s.data.toList = .«syntax») (ev : Value) (w : World) (hv : w.cell? ⟨0, 0, none⟩ = some ev) (hev : ev = .nilIface ∨ ∃ te pe, ev = .iface te pe) :
 Calls Tryz.prog 82 #[.string s] w fun e w' => ∃ N, e = .returned (.tuple #[.int .i64 (0), .iface 176 (.pointer (some ⟨N, 0, none⟩))]) ∧ w.heap.size ≤ N ∧ w'.heap[N]? = some (.cells #[.string ⟨#[65, 116, 111, 105]⟩, .string s, ev] 206 (0, 0)) ∧ Below w.heap.size w w' := Any.strconv_Atoi_syntax Tryz.laysC172 s hlim h ev w hv hev
open Go.RowKit in
theorem Tryz.strconv_Atoi_range (s : ByteArray) (hlim : s.size ≤ 281474976710656) (h : Lib.atoiAll s.data.toList = .range) (ev : Value) (w : World) (hv : w.cell? ⟨1, 0, none⟩ = some ev) (hev : ev = .nilIface ∨ ∃ te pe, ev = .iface te pe) :
 Calls Tryz.prog 82 #[.string s] w fun e w' => ∃ N, e = .returned (.tuple #[.int .i64 (Lib.atoiSat s.data.toList), .iface 176 (.pointer (some ⟨N, 0, none⟩))]) ∧ w.heap.size ≤ N ∧ w'.heap[N]? = some (.cells #[.string ⟨#[65, 116, 111, 105]⟩, .string s, ev] 206 (0, 0)) ∧ Below w.heap.size w w' := Any.strconv_Atoi_range Tryz.laysC172 s hlim h ev w hv hev
def Tryz.lays145_ren : Go.Shelf.Ren := ⟨fun | 145 => 117 | 220 => 144 | 219 => 171 | 217 => 186 | 225 => 187 | 224 => 188 | 267 => 189 | 266 => 196 | 314 => 197 | n => n, fun | 9 => 9 | 4 => 4 | 59 => 156 | 3 => 3 | 5 => 5 | 46 => 150 | 146 => 199 | 51 => 191 | n => n, fun | 1 => 2 | n => n⟩
theorem Tryz.lays145 : Go.Proofs.Lays.n145 Tryz.prog Tryz.lays145_ren := {
 mixed := by kernel_rfl
 f145 := Tryz.func117.trans (congrArg some (by kernel_rfl))
 f217 := Tryz.func186.trans (congrArg some (by kernel_rfl))
 f219 := Tryz.func171.trans (congrArg some (by kernel_rfl))
 f220 := Tryz.func144.trans (congrArg some (by kernel_rfl))
 f224 := Tryz.func188.trans (congrArg some (by kernel_rfl))
 f225 := Tryz.func187.trans (congrArg some (by kernel_rfl))
 f266 := Tryz.func196.trans (congrArg some (by kernel_rfl))
 f267 := Tryz.func189.trans (congrArg some (by kernel_rfl))
 f314 := Tryz.func197.trans (congrArg some (by kernel_rfl))
 t3 := Tryz.underlying3
 a3 := Tryz.isAgg3
 z3 := Tryz.sizeOf3
 v3 := Tryz.zeroValue3
 t4 := Tryz.underlying4
 a4 := Tryz.isAgg4
 z4 := Tryz.sizeOf4
 v4 := Tryz.zeroValue4
 t5 := Tryz.underlying5
 a5 := Tryz.isAgg5
 z5 := Tryz.sizeOf5
 v5 := Tryz.zeroValue5
 t9 := Tryz.underlying9
 a9 := Tryz.isAgg9
 z9 := Tryz.sizeOf9
 v9 := Tryz.zeroValue9
 t46 := Tryz.underlying150
 a46 := Tryz.isAgg150
 z46 := Tryz.sizeOf150
 v46 := Tryz.zeroValue150
 t51 := Tryz.underlying191
 a51 := Tryz.isAgg191
 z51 := Tryz.sizeOf191
 v51 := Tryz.zeroValue191
 t59 := Tryz.underlying156
 a59 := Tryz.isAgg156
 z59 := Tryz.sizeOf156
 v59 := Tryz.zeroValue156
 t146 := Tryz.underlying199
 a146 := Tryz.isAgg199
 z146 := Tryz.sizeOf199
 v146 := Tryz.zeroValue199
 g1 := by kernel_rfl }
open Go.RowKit Go.Lib in
theorem Tryz.strings_Cut (s sep : ByteArray) (m : Int) (w : World) (hs : s.size < 4294967281) (hm : w.cell? ⟨2, 0, none⟩ = some (.int .i64 m)) :
 Calls Tryz.prog 117 #[.string s, .string sep] w fun e w' => e = .returned (.tuple #[.string ⟨(Lib.cut s.data.toList sep.data.toList).1.toArray⟩, .string ⟨(Lib.cut s.data.toList sep.data.toList).2.1.toArray⟩, .bool (Lib.cut s.data.toList sep.data.toList).2.2]) ∧ ∃ n, w' = w.drewN n := Any.strings_Cut Tryz.lays145 s sep m w hs hm
def Tryz.lays190_ren : Go.Shelf.Ren := ⟨fun | 190 => 96 | 125 => 127 | 258 => 126 | 128 => 156 | 129 => 157 | 302 => 148 | 303 => 149 | 304 => 150 | 305 => 151 | 306 => 152 | 307 => 153 | 308 => 146 | 309 => 154 | 310 => 155 | 333 => 173 | 329 => 174 | 330 => 175 | 334 => 176 | 335 => 177 | 336 => 172 | 344 => 190 | n => n, fun | 31 => 31 | 9 => 9 | 3 => 3 | 46 => 150 | 0 => 0 | 51 => 191 | 53 => 93 | 4 => 4 | 183 => 184 | 182 => 183 | 131 => 188 | 5 => 5 | 218 => 209 | 222 => 213 | 228 => 225 | 229 => 226 | n => n, fun | n => n⟩
theorem Tryz.lays190 : Go.Proofs.Lays.n190 Tryz.prog Tryz.lays190_ren := {
 mixed := by kernel_rfl
 f125 := Tryz.func127.trans (congrArg some (by kernel_rfl))
 f128 := Tryz.func156.trans (congrArg some (by kernel_rfl))
 f129 := Tryz.func157.trans (congrArg some (by kernel_rfl))
 f190 := Tryz.func96.trans (congrArg some (by kernel_rfl))
 f258 := Tryz.func126.trans (congrArg some (by kernel_rfl))
 f302 := Tryz.func148.trans (congrArg some (by kernel_rfl))
 f303 := Tryz.func149.trans (congrArg some (by kernel_rfl))
 f304 := Tryz.func150.trans (congrArg some (by kernel_rfl))
 f305 := Tryz.func151.trans (congrArg some (by kernel_rfl))
 f306 := Tryz.func152.trans (congrArg some (by kernel_rfl))
 f307 := Tryz.func153.trans (congrArg some (by kernel_rfl))
 f308 := Tryz.func146.trans (congrArg some (by kernel_rfl))
 f309 := Tryz.func154.trans (congrArg some (by kernel_rfl))
 f310 := Tryz.func155.trans (congrArg some (by kernel_rfl))
 f329 := Tryz.func174.trans (congrArg some (by kernel_rfl))
 f330 := Tryz.func175.trans (congrArg some (by kernel_rfl))
 f333 := Tryz.func173.trans (congrArg some (by kernel_rfl))
 f334 := Tryz.func176.trans (congrArg some (by kernel_rfl))
 f335 := Tryz.func177.trans (congrArg some (by kernel_rfl))
 f336 := Tryz.func172.trans (congrArg some (by kernel_rfl))
 f344 := Tryz.func190.trans (congrArg some (by kernel_rfl))
 t0 := Tryz.underlying0
 a0 := Tryz.isAgg0
 z0 := Tryz.sizeOf0
 v0 := Tryz.zeroValue0
 t3 := Tryz.underlying3
 a3 := Tryz.isAgg3
 z3 := Tryz.sizeOf3
 v3 := Tryz.zeroValue3
 t4 := Tryz.underlying4
 a4 := Tryz.isAgg4
 z4 := Tryz.sizeOf4
 v4 := Tryz.zeroValue4
 t5 := Tryz.underlying5
 a5 := Tryz.isAgg5
 z5 := Tryz.sizeOf5
 v5 := Tryz.zeroValue5
 t9 := Tryz.underlying9
 a9 := Tryz.isAgg9
 z9 := Tryz.sizeOf9
 v9 := Tryz.zeroValue9
 t31 := Tryz.underlying31
 a31 := Tryz.isAgg31
 z31 := Tryz.sizeOf31
 v31 := Tryz.zeroValue31
 t46 := Tryz.underlying150
 a46 := Tryz.isAgg150
 z46 := Tryz.sizeOf150
 v46 := Tryz.zeroValue150
 t51 := Tryz.underlying191
 a51 := Tryz.isAgg191
 z51 := Tryz.sizeOf191
 v51 := Tryz.zeroValue191
 t53 := Tryz.underlying93
 a53 := Tryz.isAgg93
 z53 := Tryz.sizeOf93
 v53 := Tryz.zeroValue93
 t131 := Tryz.underlying188
 a131 := Tryz.isAgg188
 z131 := Tryz.sizeOf188
 v131 := Tryz.zeroValue188
 t182 := Tryz.underlying183
 a182 := Tryz.isAgg183
 z182 := Tryz.sizeOf183
 v182 := Tryz.zeroValue183
 t183 := Tryz.underlying184
 a183 := Tryz.isAgg184
 z183 := Tryz.sizeOf184
 v183 := Tryz.zeroValue184
 t218 := Tryz.underlying209
 a218 := Tryz.isAgg209
 z218 := Tryz.sizeOf209
 v218 := Tryz.zeroValue209
 t222 := Tryz.underlying213
 a222 := Tryz.isAgg213
 z222 := Tryz.sizeOf213
 v222 := Tryz.zeroValue213
 t228 := Tryz.underlying225
 a228 := Tryz.isAgg225
 z228 := Tryz.sizeOf225
 v228 := Tryz.zeroValue225
 t229 := Tryz.underlying226
 a229 := Tryz.isAgg226
 z229 := Tryz.sizeOf226
 v229 := Tryz.zeroValue226 }
open Go.Sort Go.RowKit in
theorem Tryz.slices_Sort_string (blk off cap : Nat) (ss : List (List UInt8)) (w : World) (hH : Holds encStr w blk off ss.toArray) (hblk : blk < w.heap.size) (hsz : ss.length < 4611686018427387904) :
 Calls Tryz.prog 96 #[.slice (some ⟨blk, off, none⟩) ss.length cap] w fun e w' =>
  e = .returned (.tuple #[]) ∧ ∃ n os, w' = grow (putRow encStr (Sort.ahead w n) blk off (ss.mergeSort fun x y => decide (x ≤ y)).toArray) os := Any.slices_Sort_string Tryz.lays190 blk off cap ss w hH hblk hsz
def Tryz.lays264_ren : Go.Shelf.Ren := ⟨fun | 264 => 166 | n => n, fun | 53 => 93 | 46 => 150 | n => n, fun | n => n⟩
theorem Tryz.lays264 : Go.Proofs.Lays.n264 Tryz.prog Tryz.lays264_ren := {
 mixed := by kernel_rfl
 f264 := Tryz.func166.trans (congrArg some (by kernel_rfl))
 t46 := Tryz.underlying150
 a46 := Tryz.isAgg150
 z46 := Tryz.sizeOf150
 v46 := Tryz.zeroValue150
 t53 := Tryz.underlying93
 a53 := Tryz.isAgg93
 z53 := Tryz.sizeOf93
 v53 := Tryz.zeroValue93 }
open Go.RowKit Go.Lib in
theorem Tryz.bits_Mul64 (x y : Nat) (hx : x < 18446744073709551616) (hy : y < 18446744073709551616) (w : World) :
 Calls Tryz.prog 166 #[.int .u64 x, .int .u64 y] w fun e w' => e = .returned (.tuple #[.int .u64 ((x * y / 18446744073709551616 : Nat) : Int), .int .u64 ((x * y % 18446744073709551616 : Nat) : Int)]) ∧ w' = w := Any.bits_Mul64 Tryz.lays264 x y hx hy w
def Tryz.lays212_ren : Go.Shelf.Ren := ⟨fun | 212 => 132 | 263 => 165 | 264 => 166 | n => n, fun | 46 => 150 | 51 => 191 | 146 => 199 | 53 => 93 | 148 => 201 | n => n, fun | n => n⟩
theorem Tryz.lays212 : Go.Proofs.Lays.n212 Tryz.prog Tryz.lays212_ren := {
 mixed := by kernel_rfl
 f212 := Tryz.func132.trans (congrArg some (by kernel_rfl))
 f263 := Tryz.func165.trans (congrArg some (by kernel_rfl))
 f264 := Tryz.func166.trans (congrArg some (by kernel_rfl))
 t46 := Tryz.underlying150
 a46 := Tryz.isAgg150
 z46 := Tryz.sizeOf150
 v46 := Tryz.zeroValue150
 t51 := Tryz.underlying191
 a51 := Tryz.isAgg191
 z51 := Tryz.sizeOf191
 v51 := Tryz.zeroValue191
 t53 := Tryz.underlying93
 a53 := Tryz.isAgg93
 z53 := Tryz.sizeOf93
 v53 := Tryz.zeroValue93
 t146 := Tryz.underlying199
 a146 := Tryz.isAgg199
 z146 := Tryz.sizeOf199
 v146 := Tryz.zeroValue199
 t148 := Tryz.underlying201
 a148 := Tryz.isAgg201
 z148 := Tryz.sizeOf201
 v148 := Tryz.zeroValue201 }
open Go.RowKit Go.Lib in
theorem Tryz.bits_Mul (x y : Nat) (hx : x < 18446744073709551616) (hy : y < 18446744073709551616) (w : World) :
 Calls Tryz.prog 132 #[.int .u64 x, .int .u64 y] w fun e w' => e = .returned (.tuple #[.int .u64 ((x * y / 18446744073709551616 : Nat) : Int), .int .u64 ((x * y % 18446744073709551616 : Nat) : Int)]) ∧ w' = w := Any.bits_Mul Tryz.lays212 x y hx hy w
def Tryz.lays105_ren : Go.Shelf.Ren := ⟨fun | 105 => 130 | 212 => 132 | 99 => 159 | 165 => 160 | 166 => 86 | 170 => 161 | 169 => 88 | 263 => 165 | 264 => 166 | 206 => 182 | 240 => 116 | 241 => 183 | 276 => 143 | 277 => 195 | n => n, fun | 9 => 9 | 3 => 3 | 4 => 4 | 20 => 20 | 0 => 0 | 46 => 150 | 109 => 170 | 5 => 5 | 72 => 138 | 76 => 133 | 51 => 191 | 146 => 199 | 53 => 93 | 148 => 201 | 70 => 136 | 37 => 50 | 75 => 132 | 127 => 158 | 164 => 179 | 80 => 46 | n => n, fun | n => n⟩
theorem Tryz.lays105 : Go.Proofs.Lays.n105 Tryz.prog Tryz.lays105_ren := {
 mixed := by kernel_rfl
 f99 := Tryz.func159.trans (congrArg some (by kernel_rfl))
 f105 := Tryz.func130.trans (congrArg some (by kernel_rfl))
 f165 := Tryz.func160.trans (congrArg some (by kernel_rfl))
 f166 := Tryz.func86.trans (congrArg some (by kernel_rfl))
 f169 := Tryz.func88.trans (congrArg some (by kernel_rfl))
 f170 := Tryz.func161.trans (congrArg some (by kernel_rfl))
 f206 := Tryz.func182.trans (congrArg some (by kernel_rfl))
 f212 := Tryz.func132.trans (congrArg some (by kernel_rfl))
 f240 := Tryz.func116.trans (congrArg some (by kernel_rfl))
 f241 := Tryz.func183.trans (congrArg some (by kernel_rfl))
 f263 := Tryz.func165.trans (congrArg some (by kernel_rfl))
 f264 := Tryz.func166.trans (congrArg some (by kernel_rfl))
 f276 := Tryz.func143.trans (congrArg some (by kernel_rfl))
 f277 := Tryz.func195.trans (congrArg some (by kernel_rfl))
 t0 := Tryz.underlying0
 a0 := Tryz.isAgg0
 z0 := Tryz.sizeOf0
 v0 := Tryz.zeroValue0
 t3 := Tryz.underlying3
 a3 := Tryz.isAgg3
 z3 := Tryz.sizeOf3
 v3 := Tryz.zeroValue3
 t4 := Tryz.underlying4
 a4 := Tryz.isAgg4
 z4 := Tryz.sizeOf4
 v4 := Tryz.zeroValue4
 t5 := Tryz.underlying5
 a5 := Tryz.isAgg5
 z5 := Tryz.sizeOf5
 v5 := Tryz.zeroValue5
 t9 := Tryz.underlying9
 a9 := Tryz.isAgg9
 z9 := Tryz.sizeOf9
 v9 := Tryz.zeroValue9
 t20 := Tryz.underlying20
 a20 := Tryz.isAgg20
 z20 := Tryz.sizeOf20
 v20 := Tryz.zeroValue20
 t37 := Tryz.underlying50
 a37 := Tryz.isAgg50
 z37 := Tryz.sizeOf50
 v37 := Tryz.zeroValue50
 t46 := Tryz.underlying150
 a46 := Tryz.isAgg150
 z46 := Tryz.sizeOf150
 v46 := Tryz.zeroValue150
 t51 := Tryz.underlying191
 a51 := Tryz.isAgg191
 z51 := Tryz.sizeOf191
 v51 := Tryz.zeroValue191
 t53 := Tryz.underlying93
 a53 := Tryz.isAgg93
 z53 := Tryz.sizeOf93
 v53 := Tryz.zeroValue93
 t70 := Tryz.underlying136
 a70 := Tryz.isAgg136
 z70 := Tryz.sizeOf136
 v70 := Tryz.zeroValue136
 t72 := Tryz.underlying138
 a72 := Tryz.isAgg138
 z72 := Tryz.sizeOf138
 v72 := Tryz.zeroValue138
 t75 := Tryz.underlying132
 a75 := Tryz.isAgg132
 z75 := Tryz.sizeOf132
 v75 := Tryz.zeroValue132
 t76 := Tryz.underlying133
 a76 := Tryz.isAgg133
 z76 := Tryz.sizeOf133
 v76 := Tryz.zeroValue133
 t109 := Tryz.underlying170
 a109 := Tryz.isAgg170
 z109 := Tryz.sizeOf170
 v109 := Tryz.zeroValue170
 t127 := Tryz.underlying158
 a127 := Tryz.isAgg158
 z127 := Tryz.sizeOf158
 v127 := Tryz.zeroValue158
 t146 := Tryz.underlying199
 a146 := Tryz.isAgg199
 z146 := Tryz.sizeOf199
 v146 := Tryz.zeroValue199
 t148 := Tryz.underlying201
 a148 := Tryz.isAgg201
 z148 := Tryz.sizeOf201
 v148 := Tryz.zeroValue201
 t164 := Tryz.underlying179
 a164 := Tryz.isAgg179
 z164 := Tryz.sizeOf179
 v164 := Tryz.zeroValue179 }
theorem Tryz.Builder_Extra_105 : Builder.Extra Tryz.prog Tryz.lays105_ren := {
 sizeBuilder := by kernel_rfl
 liesBuilder := by kernel_rfl
 t5 := Tryz.underlying5
 a5 := Tryz.isAgg5
 z5 := Tryz.sizeOf5
 v5 := Tryz.zeroValue5
 infoByte := by kernel_rfl
 cellsByte := by kernel_rfl
 sizeByte := by kernel_rfl
 neB5 := by decide }
open Go.RowKit Go.Lib in
theorem Tryz.strings_Repeat (s : ByteArray) (c : Nat) (w : World) (hc : c ≤ 9223372036854775807) (hlen : s.size * c ≤ 140737488355328) :
 Calls Tryz.prog 130 #[.string s, .int .i64 c] w fun e w' => e = .returned (.string ⟨(Lib.repeatL s.data.toList c).toArray⟩) ∧ Below w.heap.size w w' := Any.strings_Repeat Tryz.lays105 Tryz.Builder_Extra_105 s c w hc hlen
def Tryz.lays194_ren : Go.Shelf.Ren := ⟨fun | 194 => 47 | n => n, fun | 31 => 31 | 9 => 9 | 3 => 3 | 4 => 4 | 0 => 0 | n => n, fun | n => n⟩
theorem Tryz.lays194 : Go.Proofs.Lays.n194 Tryz.prog Tryz.lays194_ren := {
 mixed := by kernel_rfl
 f194 := Tryz.func47.trans (congrArg some (by kernel_rfl))
 t0 := Tryz.underlying0
 a0 := Tryz.isAgg0
 z0 := Tryz.sizeOf0
 v0 := Tryz.zeroValue0
 t3 := Tryz.underlying3
 a3 := Tryz.isAgg3
 z3 := Tryz.sizeOf3
 v3 := Tryz.zeroValue3
 t4 := Tryz.underlying4
 a4 := Tryz.isAgg4
 z4 := Tryz.sizeOf4
 v4 := Tryz.zeroValue4
 t9 := Tryz.underlying9
 a9 := Tryz.isAgg9
 z9 := Tryz.sizeOf9
 v9 := Tryz.zeroValue9
 t31 := Tryz.underlying31
 a31 := Tryz.isAgg31
 z31 := Tryz.sizeOf31
 v31 := Tryz.zeroValue31 }
open Go.RowKit Go.Lib Go.Sort in
theorem Tryz.slices_Compact_string (blk off cap : Nat) (zs : List (List UInt8)) (w : World) (hH : Holds encStr w blk off zs.toArray) (hsz : zs.length ≤ 9223372036854775807) (hcap : zs.length ≤ cap) :
 Calls Tryz.prog 47 #[.slice (some ⟨blk, off, none⟩) zs.length cap] w fun e w' => e = .returned (.slice (some ⟨blk, off, none⟩) (Lib.compact zs).length cap) ∧ ∃ q, w' = putRow encStr (Sort.ahead w q) blk off (Lib.compact zs ++ List.replicate (zs.length - (Lib.compact zs).length) []).toArray := Any.slices_Compact_string Tryz.lays194 blk off cap zs w hH hsz hcap
open Go.RowKit Go.Lib Go.Sort in
theorem Tryz.slices_Compact_string_empty (a : Option Addr) (cap : Nat) (w : World) :
 Calls Tryz.prog 47 #[.slice a 0 cap] w fun e w' => e = .returned (.slice a 0 cap) ∧ w' = w := Any.slices_Compact_string_empty Tryz.lays194 a cap w
open Go.RowKit Go.Sort in
theorem Tryz.slices_Sort_string_none (p : Option Addr) (cap : Nat) (w : World) :
 Calls Tryz.prog 96 #[.slice p 0 cap] w fun e w' => e = .returned (.tuple #[]) ∧ w' = w := Any.slices_Sort_string_none Tryz.lays190 p cap w
end Go.Proofs
end
section
set_option linter.unusedSimpArgs false
set_option linter.unusedVariables false
namespace GoV
open Go Go.RowKit
theorem inv_refl {w : World} {g : Gh} {hp : Hp} (h : HeapRel w g hp) : Inv w g hp w g :=
 ⟨h, Evo.refl _ _, Keeps.refl _ _, fun _ h => .inl h, fun _ h => .inl h, fun _ _ h => .inl h⟩
theorem inv_tokByt {w0 : World} {g0 : Gh} {hp : Hp} {w : World} {g : Gh} (h : Inv w0 g0 hp w g) (e : TypeId) :
 Inv w0 g0 { hp with tk := hp.tk ++ [.byt e []] } w (g.tok ⟨none, none, 0, 1, 0⟩) ∧ Evo w g w (g.tok ⟨none, none, 0, 1, 0⟩) := by
 obtain ⟨h1, h2⟩ := h.heap.newTok ⟨none, none, 0, 1, 0⟩ (.byt e []) ⟨by simp, by simp, by simp⟩ ⟨rfl, rfl, by simp, by simp⟩ (by simp)
 refine ⟨⟨h1, h.evo.trans h2, h.keeps, h.newr, fun n hn => ?_, h.i1⟩, h2⟩
 refine h.newt n ?_
 obtain ⟨T, hT, hb⟩ := mem_blks.1 hn
 rcases List.mem_append.1 hT with q | q
 ·exact mem_blks.2 ⟨T, q, hb⟩
 ·simp at q; subst q; simp at hb
theorem weak_bld {C : Cfg} {s : St} (b : Nat) (eB e : TypeId) (p : D) (hb : s.hp.H[b]? = some (.tcells eB [p, .lit (.slice none 0 0)])) :
 Weak C s ⟨s.env, s.scr, ⟨s.hp.H.set b (.tcells eB [p, .gs s.hp.tk.length 0]), s.hp.tk ++ [.byt e []]⟩⟩ := by
 intro w0 B a w h
 obtain ⟨G, g0, gb, g1, g2, g3, g4⟩ := h
 obtain ⟨q1, q2⟩ := inv_tokByt g0 e
 obtain ⟨n, hn⟩ : ∃ n, G.r[b]? = some n := by
  have hl := zAd hb
  rw [g0.heap.len] at hl
  exact ⟨_, List.getElem?_eq_getElem hl⟩
 obtain ⟨xs, k1, k2, k3⟩ := g0.heap.blk b _ n hb hn
 obtain ⟨x0, ys, rfl, r0, r1⟩ := k2.inv
 obtain ⟨x1, zs, rfl, r2, r3⟩ := r1.inv
 have := r3.inv_nil
 subst this
 simp only [Rel] at r2
 obtain ⟨rfl, _⟩ := r2
 have hgs : Rel w (G.tok ⟨none, none, 0, 1, 0⟩) (.gs s.hp.tk.length 0) (.slice none 0 0) := by
  simp only [Rel]
  rw [g0.heap.lent]
  exact ⟨none, 0, _, rfl, by simp, zDp _ _, by simp, fun _ => by simp⟩
 obtain ⟨u1, u2⟩ := q1.write (w' := w) b n hn ⟨_, hb, by simp⟩ (.tcells eB [p, .gs s.hp.tk.length 0])
  (fun w1 g1 he => by
   rw [k1]
   exact ⟨_, rfl, RelL.cons (Rel.evo _ (he) (Rel.evo _ q2 r0)) (RelL.one (Rel.evo _ he hgs)), k3⟩)
  (fun _ _ => rfl) rfl rfl rfl rfl
 refine ⟨_, u1, gb, g1, g2, g3, fun t => ?_⟩
 have h4 := g4 t
 unfold St.slot at *
 split
 ·rename_i j hj
  rw [hj] at h4
  exact Rel.evo _ u2 (Rel.evo _ q2 h4)
 ·rename_i hj
  rw [hj] at h4
  exact Rel.evo _ u2 (Rel.evo _ q2 h4)
section
open Go.Proofs
variable {M : Mod} {ρ : Go.Shelf.Ren}
theorem copyCheck_e (L : Lays.n240 M.P ρ) (X : Builder.X72 M.P ρ) (hc : zBu M (ρ.f 240)) {p x : D} {V : List Tv} (hp : p = .lit (.pointer none) ∨ p = .ptr 0 0) :
 Eff M (ρ.f 240) [.ptr 0 0] ⟨[.tcells (ρ.t 72) [p, x]], V⟩ (fun d hp' => d = .tup [] ∧ hp' = ⟨[.tcells (ρ.t 72) [.ptr 0 0, x]], V⟩) := by
 refine ⟨hc, fun w g xs hA hH hargs => ?_⟩
 obtain ⟨v, vs, rfl, h1, h2⟩ := hargs.inv
 have := h2.inv_nil
 subst this
 simp only [Rel] at h1
 obtain ⟨n, hn, rfl⟩ := h1
 obtain ⟨ys, k1, k2, k3⟩ := hH.blk 0 _ n rfl hn
 obtain ⟨y0, zs, rfl, r0, r1⟩ := k2.inv
 obtain ⟨y1, zs', rfl, r2, r3⟩ := r1.inv
 have := r3.inv_nil
 subst this
 have hcell : w.cell? ⟨n, 0, none⟩ = some y0 := by simp [World.cell?, k1]
 rcases hp with rfl | rfl
 ·simp only [Rel] at r0
  obtain ⟨rfl, _⟩ := r0
  refine (Any.Builder_copyCheck_fresh L X n w hcell (by simp [World.shape?, k1]) (by simp [World.frozen?, k1])).mono fun e w' hh => ?_
  obtain ⟨rfl, rfl⟩ := hh
  obtain ⟨u1, u2⟩ := (inv_refl hH).write (w' := w.setCell ⟨n, 0, none⟩ (.pointer (some ⟨n, 0, none⟩))) 0 n hn ⟨_, rfl, by simp⟩ (.tcells (ρ.t 72) [.ptr 0 0, x])
   (fun w1 g1 he => ⟨[.pointer (some ⟨n, 0, none⟩), y1], by simp [World.setCell, Array.getElem?_modify, k1], RelL.cons (by simp only [Rel]; exact ⟨n, he.ref 0 n hn, rfl⟩) (RelL.one (Rel.evo _ he r2)), by
    intro y hy
    rcases List.mem_cons.1 hy with q | q
    ·subst q; simp [oneC, Value.oneCell']
    ·exact k3 y (by simp [List.mem_singleton.1 q])⟩)
   (fun m hm => by simp [World.setCell, Array.getElem?_modify, Ne.symm hm]) (by simp [World.setCell]) rfl rfl rfl
  exact ⟨_, _, _, _, rfl, ⟨rfl, rfl⟩, u1, by simp [Rel, RelL]⟩
 ·simp only [Rel] at r0
  obtain ⟨m, hm, rfl⟩ := r0
  rw [hn] at hm
  cases hm
  refine (Any.Builder_copyCheck_used L X n w hcell).mono fun e w' hh => ?_
  obtain ⟨rfl, rfl⟩ := hh
  exact ⟨_, _, _, _, rfl, ⟨rfl, rfl⟩, inv_refl hH, by simp [Rel, RelL]⟩
set_option maxHeartbeats 2000000 in
set_option maxRecDepth 100000 in
theorem string_row (L : Lays.n169 M.P ρ) (X : Builder.Extra M.P ρ) (b g cap : Nat) (p : Value) (T : TypeId) (l : List UInt8) (cur : Array Value) (w : World) (hbk : w.heap[b]? = some (.cells #[p, .slice (some ⟨g, 0, none⟩) l.length cap] T (0, 0))) (hg : w.heap[g]? = some (.cells cur (ρ.t 5) (0, 0)))
 (h0 : l ≠ []) (hl : l.length ≤ 140737488355328) (hnc : l.length ≤ cap) (hcs : cur.size = cap) (hcells : ∀ (j : Nat) x, l[j]? = some x → w.cell? ⟨g, j, none⟩ = some (.int .u8 x.toNat)) :
 Calls M.P (ρ.f 169) #[.pointer (some ⟨b, 0, none⟩)] w fun e w' => e = .returned (.string ⟨l.toArray⟩) ∧ w' = w.drew.freeze ⟨g, 0, none⟩ l.length := by
 have hl0 : l.length ≠ 0 := by simpa using h0
 have c1 : w.drew.cell? ⟨b, 1, none⟩ = some (.slice (some ⟨g, 0, none⟩) l.length cap) := by
  have : w.drew.heap[b]? = some (.cells #[p, .slice (some ⟨g, 0, none⟩) l.length cap] T (0, 0)) := hbk
  rw [Lib.cell_of_heap this]; rfl
 have hSD : (Builtin.unsafeSliceData_ #[(ρ.t 37)] (ρ.t 127) #[.slice (some ⟨g, 0, none⟩) l.length cap]).run M.P w.drew = .ok (.pointer (some ⟨g, 0, none⟩)) w.drew :=
  Lib.run_unsafeSliceData_row _ _ _ _ _ _ (by omega)
 have hUS : (Builtin.unsafeString_ #[(ρ.t 127), (ρ.t 3)] (ρ.t 9) #[.pointer (some ⟨g, 0, none⟩), .int .i64 l.length]).run M.P w.drew = .ok (.string ⟨l.toArray⟩) (w.drew.freeze ⟨g, 0, none⟩ l.length) := by
  refine Lib.run_unsafeString_row w.drew (ρ.t 127) (ρ.t 3) (ρ.t 9) (ρ.t 5) L.t127 X.cellsByte g cur.size (by have hg' : w.drew.heap[g]? = some (.cells cur (ρ.t 5) (0, 0)) := hg; simp [World.shape?, hg']) l h0 (by omega) (by omega) ?_
  intro j x hx
  have := hcells j x hx
  rw [Addr.add_lit, Nat.zero_add]
  exact this
 have mixed := L.mixed
 have t72 := L.t72; have a72 := L.a72; have z72 := L.z72; have v72 := L.v72; have u72 := run_underlying L.t72
 have t70 := L.t70; have a70 := L.a70; have z70 := L.z70; have v70 := L.v70; have u70 := run_underlying L.t70
 have t37 := L.t37; have a37 := L.a37; have z37 := L.z37; have v37 := L.v37; have u37 := run_underlying L.t37
 have t127 := L.t127; have a127 := L.a127; have z127 := L.z127; have v127 := L.v127; have u127 := run_underlying L.t127
 have t3 := L.t3; have a3 := L.a3; have z3 := L.z3; have v3 := L.v3; have u3 := run_underlying L.t3
 have t9 := L.t9; have a9 := L.a9; have z9 := L.z9; have v9 := L.v9; have u9 := run_underlying L.t9
 have t5 := X.t5; have a5 := X.a5; have z5 := X.z5; have v5 := X.v5; have u5 := run_underlying X.t5
 go_enter L.f169, Body.n169_ntmps ρ
 go_wp2
 go_region_o
 all_goals (go_wp2; go_ret; exact ⟨rfl, rfl⟩)
theorem string_e (L : Lays.n169 M.P ρ) (X : Builder.Extra M.P ρ) (hc : zBu M (ρ.f 169)) {p : D} {bs : List UInt8} (hl : bs.length ≤ 140737488355328) :
 Eff M (ρ.f 169) [.ptr 0 0] ⟨[.tcells (ρ.t 72) [p, .gs 0 bs.length]], [.byt (ρ.t 5) bs]⟩ (fun d hp' => d = .str bs ∧ hp' = ⟨[.tcells (ρ.t 72) [p, .gs 0 bs.length]], [.per 1 (bs.length + 1)]⟩) := by
 refine ⟨hc, fun w g xs hA hH hargs => ?_⟩
 obtain ⟨v, vs, rfl, h1, h2⟩ := hargs.inv
 have := h2.inv_nil
 subst this
 simp only [Rel] at h1
 obtain ⟨n, hn, rfl⟩ := h1
 obtain ⟨ys, k1, k2, k3⟩ := hH.blk 0 _ n rfl hn
 obtain ⟨y0, zs, rfl, r0, r1⟩ := k2.inv
 obtain ⟨y1, zs', rfl, r2, r3⟩ := r1.inv
 have := r3.inv_nil
 subst this
 simp only [Rel] at r2
 obtain ⟨a, cap, T, rfl, hnn, hT, hlT, hsT⟩ := r2
 obtain ⟨T', hT', ⟨q1, q2, q3, q4⟩, hok⟩ := hH.tokBlk (t := 0) (V := .byt (ρ.t 5) bs) rfl
 rw [hT] at hT'; cases hT'
 obtain ⟨rfl, rfl, hb⟩ := hsT (by omega)
 have fin : ∀ {w' : World}, w'.os = w.os → w'.tape = w.tape → w'.output = w.output → w.heap.size ≤ w'.heap.size → (∀ m, m < w.heap.size → T.blk ≠ some m → w'.heap[m]? = w.heap[m]?) → (∀ c o, g.I c o → w'.cell? ⟨c, o, none⟩ = w.cell? ⟨c, o, none⟩) →
  Post w g (fun d hp' => d = .str bs ∧ hp' = ⟨[.tcells (ρ.t 72) [p, .gs 0 bs.length]], [.per 1 (bs.length + 1)]⟩) (.returned (.string ⟨bs.toArray⟩)) w' := by
  intro w' e1 e2 e3 e4 e5 e6
  obtain ⟨u1, u2⟩ := (inv_refl hH).goTok (w' := w') (T' := ⟨Option.none, Option.none, T.len + 1, 1, T.len + 1⟩) (I' := g.I) (V' := .per 1 (bs.length + 1)) hT q1.symm (.inr (by simp)) e5 e4 e1 e2 e3 (fun n hn => by simp at hn)
   (fun c o ho => ⟨ho, e6 c o ho⟩) (fun c o ho => .inl ho) ⟨by simp, by simp, by simp⟩ (fun _ => ⟨rfl, by simp [q2], by simp⟩)
  exact ⟨_, _, _, _, rfl, ⟨rfl, rfl⟩, u1, by simp [Rel]⟩
 have old : ∀ {w' : World}, Below w.heap.size w w' → Post w g (fun d hp' => d = .str bs ∧ hp' = ⟨[.tcells (ρ.t 72) [p, .gs 0 bs.length]], [.per 1 (bs.length + 1)]⟩) (.returned (.string ⟨bs.toArray⟩)) w' := by
  intro w' hb'
  exact fin hb'.os hb'.tape hb'.output hb'.size (fun m hm _ => hb'.block m hm) (fun c o ho => cell_of_heap (hb'.block c (hH.imm c o ho).1))
 cases hTb : T.blk with
 | none =>
   obtain ⟨z1, z2⟩ := q3 hTb
   have hlen : bs = [] := List.eq_nil_of_length_eq_zero (by omega)
   subst hlen
   have hcap : T.cap = 0 := by rw [← hok.2.1 hTb]; exact z1
   rw [z2, hcap] at k1
   refine (Any.Builder_String_nil L X w.heap.size n y0 w k1).mono fun e w' hh => ?_
   obtain ⟨rfl, hb'⟩ := hh
   exact old hb'
 | some m =>
   obtain ⟨hI, ys, z1, z2⟩ := q4 m hTb
   obtain ⟨had, _, hlc, ys', e', z3, z4, z5⟩ := hok.2.2 m hTb
   rw [z1] at z3; cases z3
   rw [had] at k1
   rw [q1, Nat.mul_one] at z4
   by_cases hz : bs = []
   ·subst hz
    by_cases hcap : T.cap = 0
    ·rw [hcap] at k1
     refine (Any.Builder_String_noroom L X w.heap.size n m y0 ys w (Nat.le_refl _) k1 z1).mono fun e w' hh => ?_
     obtain ⟨rfl, hb'⟩ := hh
     exact old hb'
    ·refine (Any.Builder_String_room L X w.heap.size n m T.cap y0 w hcap k1).mono fun e w' hh => ?_
     obtain ⟨rfl, hb'⟩ := hh
     exact old hb'
   ·refine (string_row L X n m T.cap y0 (ρ.t 72) bs ys w k1 z1 hz hl (by omega) z4 (fun j x hx => ?_)).mono fun e w' hh => ?_
    ·have hj := zAd hx
     have h3 := congrArg (fun l => l[j]?) z2
     simp only [List.getElem?_map, hx, Option.map_some] at h3
     rw [List.getElem?_take, if_pos (by omega)] at h3
     rw [zCm z1, ← Array.getElem?_toList]
     exact h3
    ·obtain ⟨rfl, rfl⟩ := hh
     have hfr : ∀ c, m ≠ c → (w.drew.freeze ⟨m, 0, none⟩ bs.length).heap[c]? = w.heap[c]? := by
      intro c hc
      unfold World.freeze
      split
      ·rfl
      ·simp [Array.getElem?_modify, hc]; rfl
     have hsz : (w.drew.freeze ⟨m, 0, none⟩ bs.length).heap.size = w.heap.size := by
      unfold World.freeze
      split
      ·rfl
      ·simp
     have hos : ∀ w : World, (w.freeze ⟨m, 0, none⟩ bs.length).os = w.os ∧ (w.freeze ⟨m, 0, none⟩ bs.length).tape = w.tape ∧ (w.freeze ⟨m, 0, none⟩ bs.length).output = w.output := by
      intro w
      unfold World.freeze
      split <;> exact ⟨rfl, rfl, rfl⟩
     refine fin (hos w.drew).1 (hos w.drew).2.1 (hos w.drew).2.2 (Nat.le_of_eq hsz.symm) (fun c _ hne => hfr c fun e => hne (by rw [hTb, e])) (fun c o ho => cell_of_heap (hfr c fun e => by subst e; exact hI o ho))
end
end GoV
end
section
set_option maxRecDepth 100000
namespace Go.Proofs.YtkobjnpmjngklaaGreatDoor
open Go GoV
noncomputable def M : Mod := varMod Tryz.prog [(3, fun cs => cs = (Lib.pow10Tab.map (Value.int .u64 ·)).toArray), (2, fun cs => ∃ v, (∃ m, v = .int .i64 m) ∧ cs = #[v]),
 (0, fun cs => ∃ v, (v = .nilIface ∨ ∃ te pe, v = .iface te pe) ∧ cs = #[v]), (1, fun cs => ∃ v, (v = .nilIface ∨ ∃ te pe, v = .iface te pe) ∧ cs = #[v])]
noncomputable abbrev Ya (x y : Nat) : RO := ⟨.l x, .mv, [.v y], none⟩
noncomputable abbrev Za (x y g : Nat) (c : Bool) : RO := ⟨.l x, .mv, [.v y], some (.l g, c)⟩
noncomputable abbrev Yb (x y : Nat) : RO := ⟨.v x, .mv, [.l y], none⟩
noncomputable abbrev Yc (x y : Nat) : RO := ⟨.l x, .mv, [.l y], none⟩
noncomputable abbrev Zc (x y g : Nat) (c : Bool) : RO := ⟨.l x, .mv, [.l y], some (.l g, c)⟩
noncomputable abbrev Yd (x y : Nat) : RO := ⟨.l x, (.ld false 1), [.l y], none⟩
noncomputable abbrev Zd (x y g : Nat) (c : Bool) : RO := ⟨.l x, (.ld false 1), [.l y], some (.l g, c)⟩
noncomputable abbrev Ye (x y : Nat) : RO := ⟨.l x, (.ld false 1), [.v y], none⟩
noncomputable abbrev Ze (x y g : Nat) (c : Bool) : RO := ⟨.l x, (.ld false 1), [.v y], some (.l g, c)⟩
noncomputable abbrev Yf (x n y : Nat) : RO := ⟨.l x, (.ld true n), [.v y], none⟩
noncomputable abbrev Zf (x n y g : Nat) (c : Bool) : RO := ⟨.l x, (.ld true n), [.v y], some (.l g, c)⟩
noncomputable abbrev Yg (x n y : Nat) : RO := ⟨.l x, (.ld true n), [.l y], none⟩
noncomputable abbrev Yh (x k y : Nat) : RO := ⟨.l x, (.fld k), [.v y], none⟩
noncomputable abbrev Zh (x k y g : Nat) (c : Bool) : RO := ⟨.l x, (.fld k), [.v y], some (.l g, c)⟩
noncomputable abbrev Yi (x k y : Nat) : RO := ⟨.l x, (.fld k), [.l y], none⟩
noncomputable abbrev Zi (x k y g : Nat) (c : Bool) : RO := ⟨.l x, (.fld k), [.l y], some (.l g, c)⟩
noncomputable abbrev Yj (n x y : Nat) : RO := ⟨.none, (.st n), [.v x, .l y], none⟩
noncomputable abbrev Yk (n x y : Nat) : RO := ⟨.none, (.st n), [.l x, .l y], none⟩
noncomputable abbrev Yl (x y : Nat) : RO := ⟨.v x, .box, [.v y], none⟩
noncomputable abbrev Ym (x i y : Nat) : RO := ⟨.l x, (.ext i), [.l y], none⟩
noncomputable abbrev Yn (x y : Nat) : RO := ⟨.l x, (.nck M.P), [.l y], none⟩
noncomputable abbrev Zn (x y g : Nat) (c : Bool) : RO := ⟨.l x, (.nck M.P), [.l y], some (.l g, c)⟩
noncomputable abbrev Yo (x y z : Nat) : RO := ⟨.l x, .pick, [.l y, .l z, .con (.bool false)], none⟩
noncomputable abbrev Yp (x y z : Nat) : RO := ⟨.v x, .pick, [.l y, .l z, .con (.bool false)], none⟩
noncomputable abbrev Yq (x y z : Nat) : RO := ⟨.l x, .pick, [.l y, .con (.bool true), .l z], none⟩
noncomputable abbrev Yr (x y z : Nat) : RO := ⟨.v x, .pick, [.l y, .con (.bool true), .l z], none⟩
noncomputable abbrev Ys (x : Nat) (n : Int) : RO := ⟨.v x, .mv, [.con (.int .i64 n)], none⟩
noncomputable abbrev Yt (x f a : Nat) : RO := ⟨.l x, (.calls .fn), [(.con (.fn (.func f) [] [])), .l a], none⟩
noncomputable abbrev Yu (x f a b : Nat) : RO := ⟨.l x, (.calls .fn), [(.con (.fn (.func f) [] [])), .l a, .l b], none⟩
noncomputable abbrev Yv (x : Nat) (o : BinOp) (y : Nat) (n : Int) : RO := ⟨.l x, (.bin o), [.l y, .con (.int .i64 n)], none⟩
noncomputable abbrev Yw (x : Nat) (o : BinOp) (y : Nat) (n : Int) : RO := ⟨.l x, (.bin o), [.v y, .con (.int .i64 n)], none⟩
noncomputable abbrev Yx (x : Nat) (o : BinOp) (y z : Nat) : RO := ⟨.l x, (.bin o), [.l y, .l z], none⟩
noncomputable abbrev Yy (x : Nat) (o : BinOp) (y z : Nat) : RO := ⟨.v x, (.bin o), [.l y, .l z], none⟩
noncomputable abbrev Yz (x : Nat) (o : BinOp) (y : Nat) (n : Int) : RO := ⟨.v x, (.bin o), [.l y, .con (.int .i64 n)], none⟩
noncomputable def E163 (n m : Nat) : Cfg := ⟨M, [0, 2], 21, n, m, []⟩
noncomputable def C163 : Cfg := E163 0 0
noncomputable abbrev r163_0 : List RO := [⟨.v 1, .mv, [(.con (.int .u64 0))], none⟩]
noncomputable abbrev r163_1 : List RO := [Ya 4 0, ⟨.l 5, .calls .fn, [(.con (.fn (.func 166) [] [])), .l 4, (.con (.int .u64 6364136223846793005))], none⟩, Yc 3 5, Ym 6 0 3, Ym 7 1 3, Yb 0 7]
noncomputable abbrev r163_2 : List RO := [Ya 8 0, Ya 9 0, ⟨.l 10, .bin .shr, [.l 9, (.con (.int .u64 33))], none⟩, Yx 11 .xor 8 10, Yb 0 11]
noncomputable abbrev r163_3 : List RO := [Ya 13 0, ⟨.l 14, .calls .fn, [(.con (.fn (.func 166) [] [])), .l 13, (.con (.int .u64 2685821657736338717))], none⟩, Yc 12 14, Ym 15 0 12, Ym 16 1 12, Yb 0 16]
noncomputable abbrev r163_4 : List RO := [Ya 17 0, Ya 18 0, ⟨.l 19, .bin .shr, [.l 18, (.con (.int .u64 27))], none⟩, Yx 20 .xor 17 19, Yb 1 20]
theorem P163 : C163.M = M := rfl
theorem i163 {a0 : D} : St.init C163 [a0] ⟨[], []⟩ = ⟨[a0, .u0], [], ⟨[], []⟩⟩ := rfl
noncomputable def c163 : RC := (.seq (.reg r163_0) (.seq (.reg r163_1) (.seq (.reg r163_2) (.seq (.reg r163_3) (.seq (.reg r163_4) .ret)))))
noncomputable def q163 : List RR := [(.slot (.v 1))]
theorem k163 : FnOk M 163 1 Tryz.f163 E163 c163 q163 := fnOk Tryz.func163
noncomputable def E164 (n m : Nat) : Cfg := ⟨M, [0, 1, 2, 3, 4, 12], 21, n, m, []⟩
noncomputable def C164 : Cfg := E164 0 0
noncomputable abbrev r164_0 : List RO := [⟨.v 0, (.newb [(.int .u8 0), (.int .u8 0), (.int .u8 0), (.int .u8 0), (.int .u8 0), (.int .u8 0), (.int .u8 0), (.int .u8 0), (.int .u8 0), (.int .u8 0), (.int .u8 0), (.int .u8 0), (.int .u8 0), (.int .u8 0), (.int .u8 0), (.int .u8 0)]), [], none⟩]
noncomputable abbrev r164_1 : List RO := [⟨.v 1, (.newb [(.int .u8 0), (.int .u8 0), (.int .u8 0), (.int .u8 0), (.int .u8 0), (.int .u8 0), (.int .u8 0), (.int .u8 0), (.int .u8 0), (.int .u8 0), (.int .u8 0), (.int .u8 0), (.int .u8 0), (.int .u8 0), (.int .u8 0), (.int .u8 0)]), [], none⟩]
noncomputable abbrev r164_2 : List RO := [Ys 3 0]
noncomputable abbrev r164_3 : List RO := [⟨.v 4, .bin .lss, [.v 3, .con (.int .i64 16)], none⟩]
noncomputable abbrev r164_4 : List RO := [Ya 5 3, Yb 2 5]
noncomputable abbrev r164_5 : List RO := [Ya 6 2, Ya 7 2, ⟨.l 8, .bin .add, [.con (.int .i64 48), .l 7], none⟩, ⟨.l 9, .cvI .u8, [.l 8], none⟩, ⟨.l 10, .ixaA 16 1, [.v 1, .l 6], none⟩, Yk 1 10 9]
noncomputable abbrev r164_6 : List RO := [Ya 11 2, Yz 5 .geq 11 10]
noncomputable abbrev r164_7 : List RO := [Ya 13 2, Ya 14 2, ⟨.l 15, .bin .add, [.con (.int .i64 97), .l 14], none⟩, Yv 16 .sub 15 10, ⟨.l 17, .cvI .u8, [.l 16], none⟩, ⟨.l 18, .ixaA 16 1, [.v 1, .l 13], none⟩, Yk 1 18 17]
noncomputable abbrev r164_8 : List RO := [Yw 19 .add 3 1, Yb 3 19]
noncomputable abbrev r164_9 : List RO := [Yf 20 16 1, Yj 16 0 20]
theorem P164 : C164.M = M := rfl
theorem i164 : St.init C164 [] ⟨[], []⟩ = ⟨[.u0, .u0, .u0, .u0, .u0, .u0], [], ⟨[], []⟩⟩ := rfl
noncomputable def c164 : RC := (.seq (.reg r164_0) (.seq (.reg r164_1) (.seq (.seq (.reg r164_2) (.block 0 (.loop (.seq (.reg r164_3) (.seq (.cond (.v 4) .skip (.exit 0)) (.seq (.block 1 (.seq (.reg r164_4) (.seq (.reg r164_5) (.seq (.reg r164_6) (.cond (.v 5) (.reg r164_7) .skip))))) (.reg r164_8))))))) (.seq (.reg r164_9) .ret))))
noncomputable def q164 : List RR := [(.cell (.v 0) true 16)]
theorem z164 {n m : Nat} : zAe (E164 n m) (Tryz.f164.body.getD .skip) = some c164 := by kernel_rfl
theorem k164 : FnOk M 164 0 Tryz.f164 E164 c164 q164 := fnOk Tryz.func164
noncomputable def E162 (n m : Nat) : Cfg := ⟨M, [0, 1, 3, 4, 5, 9, 10], 24, n, m, []⟩
noncomputable abbrev r162_0 : List RO := [⟨.v 2, (.newb [(.int .u8 0), (.int .u8 0), (.int .u8 0), (.int .u8 0), (.int .u8 0), (.int .u8 0), (.int .u8 0), (.int .u8 0)]), [], none⟩]
noncomputable abbrev r162_1 : List RO := [⟨.l 6, .slcA 8 1 false false, [.v 2], none⟩, Ya 7 0, ⟨.l 8, .cpy 1, [.l 6, .l 7], none⟩]
noncomputable abbrev r162_2 : List RO := [⟨.v 3, .mv, [(.con (.int .u64 0))], none⟩]
noncomputable abbrev r162_3 : List RO := [Ys 5 0]
noncomputable abbrev r162_4 : List RO := [⟨.v 6, .bin .lss, [.v 5, .con (.int .i64 8)], none⟩]
noncomputable abbrev r162_5 : List RO := [Ya 11 5, Yb 4 11]
noncomputable abbrev r162_6 : List RO := [Ya 12 3, ⟨.l 13, .bin .shl, [.l 12, (.con (.int .u64 8))], none⟩, Ya 14 4, ⟨.l 15, .ixaA 8 1, [.v 2, .l 14], none⟩, Yd 16 15, ⟨.l 17, .cvI .u64, [.l 16], none⟩, Yx 18 .or 13 17, Yb 3 18]
noncomputable abbrev r162_7 : List RO := [Yw 19 .add 5 1, Yb 5 19]
noncomputable abbrev r162_8 : List RO := [Ye 20 1, Ya 21 3, Yx 22 .xor 20 21, Yt 23 163 22, Yj 1 1 23]
theorem pe162 {n m : Nat} : (E162 n m).M = M := rfl
theorem ie162 {n m : Nat} {hp : Hp} {a0 a1 : D} : St.init (E162 n m) [a0, a1] hp = ⟨[a0, a1, .u0, .u0, .u0, .u0, .u0], [], hp⟩ := rfl
noncomputable def c162 : RC := (.seq (.reg r162_0) (.seq (.reg r162_1) (.seq (.reg r162_2) (.seq (.seq (.reg r162_3) (.block 0 (.loop (.seq (.reg r162_4) (.seq (.cond (.v 6) .skip (.exit 0)) (.seq (.block 1 (.seq (.reg r162_5) (.reg r162_6))) (.reg r162_7))))))) (.reg r162_8)))))
noncomputable def q162 : List RR := []
theorem k162 : FnOk M 162 2 Tryz.f162 E162 c162 q162 := fnOk Tryz.func162
noncomputable def E131 (n m : Nat) : Cfg := ⟨M, [0, 2, 3, 4, 5, 6, 7, 15, 26, 27], 42, n, m, []⟩
noncomputable def C131 : Cfg := E131 0 0
noncomputable abbrev r131_0 : List RO := [⟨.v 1, .mv, [(.con (.str []))], none⟩]
noncomputable abbrev r131_1 : List RO := [Ya 8 0, ⟨.l 9, .lenS, [.l 8], none⟩, ⟨.l 10, .cvI .u64, [.l 9], none⟩, ⟨.l 11, .bin .xor, [(.con (.int .u64 7046029254386353131)), .l 10], none⟩, ⟨.v 2, (.newb [(.int .u64 0)]), [], none⟩, Yj 1 2 11]
noncomputable abbrev r131_2 : List RO := [⟨.l 12, (.mkF (.func 162) 0), [.v 2], none⟩, Yb 3 12]
noncomputable abbrev r131_3 : List RO := [Ya 13 0, ⟨.l 14, .lenS, [.l 13], none⟩, Yz 7 .geq 14 8]
noncomputable abbrev r131_4 : List RO := [Ya 18 3, Ya 19 0, ⟨.l 20, .slcS false true, [.l 19, .con (.int .i64 8)], none⟩, ⟨.l 21, .calls .fn, [.l 18, .l 20], none⟩]
noncomputable abbrev r131_5 : List RO := [Ya 16 0, ⟨.l 17, .slcS true false, [.l 16, .con (.int .i64 8)], none⟩, Yb 0 17]
noncomputable abbrev r131_6 : List RO := [Ya 22 3, Ya 23 0, ⟨.l 24, .calls .fn, [.l 22, .l 23], none⟩]
noncomputable abbrev r131_7 : List RO := [⟨.l 25, .calls .fn, [(.con (.fn (.func 164) [] []))], none⟩, ⟨.v 4, (.newb [(.int .u8 0), (.int .u8 0), (.int .u8 0), (.int .u8 0), (.int .u8 0), (.int .u8 0), (.int .u8 0), (.int .u8 0), (.int .u8 0), (.int .u8 0), (.int .u8 0), (.int .u8 0), (.int .u8 0), (.int .u8 0), (.int .u8 0), (.int .u8 0)]), [], none⟩, Yj 16 4 25]
noncomputable abbrev r131_8 : List RO := [⟨.v 5, (.newb [(.int .u8 0), (.int .u8 0), (.int .u8 0), (.int .u8 0), (.int .u8 0), (.int .u8 0), (.int .u8 0), (.int .u8 0), (.int .u8 0), (.int .u8 0), (.int .u8 0), (.int .u8 0), (.int .u8 0), (.int .u8 0), (.int .u8 0), (.int .u8 0)]), [], none⟩]
noncomputable abbrev r131_9 : List RO := [Ys 8 0]
noncomputable abbrev r131_10 : List RO := [⟨.v 9, .bin .lss, [.v 8, .con (.int .i64 16)], none⟩]
noncomputable abbrev r131_11 : List RO := [Ya 28 8, Yb 6 28]
noncomputable abbrev r131_12 : List RO := [Ya 29 6, Ye 30 2, Ya 31 6, ⟨.l 32, .bin .mul, [.con (.int .i64 4), .l 31], none⟩, ⟨.l 33, .bin .sub, [.con (.int .i64 60), .l 32], none⟩, Yx 34 .shr 30 33, ⟨.l 35, .bin .and, [.l 34, (.con (.int .u64 15))], none⟩, ⟨.l 36, .ixaA 16 1, [.v 4, .l 35], none⟩, Yd 37 36, ⟨.l 38, .ixaA 16 1, [.v 5, .l 29], none⟩, Yk 1 38 37]
noncomputable abbrev r131_13 : List RO := [Yw 39 .add 8 1, Yb 8 39]
noncomputable abbrev r131_14 : List RO := [⟨.l 40, .slcA 16 1 false false, [.v 5], none⟩, ⟨.l 41, .b2s, [.l 40], none⟩, Yb 1 41]
theorem P131 : C131.M = M := rfl
theorem i131 {a0 : D} : St.init C131 [a0] ⟨[], []⟩ = ⟨[a0, .u0, .u0, .u0, .u0, .u0, .u0, .u0, .u0, .u0], [], ⟨[], []⟩⟩ := rfl
noncomputable def c131 : RC := (.seq (.reg r131_0) (.seq (.reg r131_1) (.seq (.reg r131_2) (.seq (.block 0 (.loop (.seq (.seq (.reg r131_3) (.cond (.v 7) .skip (.exit 0))) (.seq (.block 1 (.reg r131_4)) (.reg r131_5))))) (.seq (.reg r131_6) (.seq (.reg r131_7) (.seq (.reg r131_8) (.seq (.seq (.reg r131_9) (.block 2 (.loop (.seq (.reg r131_10) (.seq (.cond (.v 9) .skip (.exit 2)) (.seq (.block 3 (.seq (.reg r131_11) (.reg r131_12))) (.reg r131_13))))))) (.seq (.reg r131_14) .ret)))))))))
noncomputable def q131 : List RR := [(.slot (.v 1))]
theorem z131 {n m : Nat} : zAe (E131 n m) (Tryz.f131.body.getD .skip) = some c131 := by kernel_rfl
theorem k131 : FnOk M 131 1 Tryz.f131 E131 c131 q131 := fnOk Tryz.func131
noncomputable def E54 (n m : Nat) : Cfg := ⟨M, [0, 1, 4, 5, 10, 14, 25], 26, n, m, []⟩
noncomputable def C54 : Cfg := E54 0 0
noncomputable abbrev r54_0 : List RO := [⟨.v 2, .mv, [.con (.bool false)], none⟩]
noncomputable abbrev r54_1 : List RO := [Ya 6 0, ⟨.l 7, .lenL, [.l 6], none⟩, Ya 8 1, ⟨.l 9, .lenL, [.l 8], none⟩, Yy 4 .neq 7 9]
noncomputable abbrev r54_2 : List RO := [⟨.v 2, .mv, [.con (.bool false)], none⟩]
noncomputable abbrev r54_3 : List RO := [Ys 3 0]
noncomputable abbrev r54_4 : List RO := [Ya 11 3, Ya 12 0, ⟨.l 13, .lenL, [.l 12], none⟩, Yy 5 .lss 11 13]
noncomputable abbrev r54_5 : List (RO × Bool) := [(Ya 17 0, true), (Ya 18 3, true), (⟨.l 19, .ixaS 1, [.l 17, .l 18], none⟩, true), (Yd 20 19, true), (Ya 21 1, true), (Ya 22 3, true), (⟨.l 23, .ixaS 1, [.l 21, .l 22], none⟩, true), (Yd 24 23, true)]
noncomputable abbrev r54_6 : List RO := [Yy 6 .neq 20 24]
noncomputable abbrev r54_7 : List RO := [⟨.v 2, .mv, [.con (.bool false)], none⟩]
noncomputable abbrev r54_8 : List RO := [Ya 15 3, Yv 16 .add 15 1, Yb 3 16]
noncomputable abbrev r54_9 : List RO := [⟨.v 2, .mv, [.con (.bool true)], none⟩]
theorem P54 : C54.M = M := rfl
theorem i54 {a0 a1 : D} : St.init C54 [a0, a1] ⟨[], []⟩ = ⟨[a0, a1, .u0, .u0, .u0, .u0, .u0], [], ⟨[], []⟩⟩ := rfl
noncomputable def c54 : RC := (.seq (.reg r54_0) (.seq (.seq (.reg r54_1) (.cond (.v 4) (.seq (.reg r54_2) .ret) .skip)) (.seq (.seq (.reg r54_3) (.block 0 (.loop (.seq (.seq (.reg r54_4) (.cond (.v 5) .skip (.exit 0))) (.seq (.block 1 (.seq (.regD r54_5 r54_6) (.cond (.v 6) (.seq (.reg r54_7) .ret) .skip))) (.reg r54_8)))))) (.seq (.reg r54_9) .ret))))
noncomputable def q54 : List RR := [(.slot (.v 2))]
theorem k54 : FnOk M 54 2 Tryz.f54 E54 c54 q54 := fnOk Tryz.func54
noncomputable def E17 (n m : Nat) : Cfg := ⟨M, [0, 1, 4], 8, n, m, []⟩
noncomputable def C17 : Cfg := E17 0 0
noncomputable abbrev r17_0 : List RO := [⟨.v 2, .mv, [.con (.bool false)], none⟩]
noncomputable abbrev r17_1 : List RO := [Ya 5 0, Ya 6 1, Yu 7 54 5 6, Yb 2 7]
theorem P17 : C17.M = M := rfl
theorem i17 {a0 a1 : D} : St.init C17 [a0, a1] ⟨[], []⟩ = ⟨[a0, a1, .u0], [], ⟨[], []⟩⟩ := rfl
noncomputable def c17 : RC := (.seq (.reg r17_0) (.seq (.reg r17_1) .ret))
noncomputable def q17 : List RR := [(.slot (.v 2))]
theorem k17 : FnOk M 17 2 Tryz.f17 E17 c17 q17 := fnOk Tryz.func17
noncomputable def E13 (n m : Nat) : Cfg := ⟨M, [0, 2, 8], 14, n, m, []⟩
noncomputable def C13 : Cfg := E13 0 0
noncomputable abbrev r13_0 : List RO := [⟨.v 1, .mv, [(.con (.lit (.pointer none)))], none⟩]
noncomputable abbrev r13_1 : List RO := [Ya 3 0, Yv 4 .lss 3 1, Yc 5 4, Za 6 0 5 false, ⟨.l 7, .bin .gtr, [.l 6, .con (.int .i64 8000)], (some (.l 5, false))⟩, Yr 2 5 7]
noncomputable abbrev r13_2 : List RO := [⟨.v 1, .mv, [(.con (.lit (.pointer none)))], none⟩]
noncomputable abbrev r13_3 : List RO := [Ya 9 0, Yv 10 .mul 9 64, ⟨.l 11, (.mks 1 1 [(.int .u8 0)]), [.l 10, .l 10], none⟩, ⟨.l 12, (.bld [(.lit (.slice none 0 0)), (.lit (.slice none 0 0)), (.bool false), (.lit (.pointer none))] [(0, 1)]), [.l 11], none⟩, ⟨.l 13, .box, [.l 12], none⟩, Yb 1 13]
theorem P13 : C13.M = M := rfl
theorem pe13 {n m : Nat} : (E13 n m).M = M := rfl
theorem ie13 {n m : Nat} {hp : Hp} {a0 : D} : St.init (E13 n m) [a0] hp = ⟨[a0, .u0, .u0], [], hp⟩ := rfl
noncomputable def c13 : RC := (.seq (.reg r13_0) (.seq (.seq (.reg r13_1) (.cond (.v 2) (.seq (.reg r13_2) .ret) .skip)) (.seq (.reg r13_3) .ret)))
noncomputable def q13 : List RR := [(.slot (.v 1))]
theorem k13 : FnOk M 13 1 Tryz.f13 E13 c13 q13 := fnOk Tryz.func13
noncomputable def E59 (n m : Nat) : Cfg := ⟨M, [0, 1, 4, 5, 21], 29, n, m, []⟩
noncomputable def C59 : Cfg := E59 0 0
noncomputable abbrev r59_0 : List RO := [⟨.v 2, (.newb [(.int .i64 0), (.int .i64 0)]), [], none⟩, ⟨.v 3, .mv, [.con (.bool false)], none⟩]
noncomputable abbrev r59_1 : List RO := [Ya 6 0, ⟨.l 7, .eqN false .ptr, [.l 6, (.con (.lit (.pointer none)))], none⟩, Yc 8 7, Za 9 1 8 false, ⟨.l 10, .bin .lss, [.l 9, .con (.int .i64 0)], (some (.l 8, false))⟩, Yq 11 8 10, Yc 12 11, Za 13 1 12 false, Za 14 0 12 false, Zn 15 14 12 false, Zi 16 0 15 12 false, Zd 17 16 12 false, ⟨.l 18, .lenL, [.l 17], (some (.l 12, false))⟩, ⟨.l 19, .bin .quo, [.l 18, .con (.int .i64 64)], (some (.l 12, false))⟩, ⟨.l 20, .bin .geq, [.l 13, .l 19], (some (.l 12, false))⟩, Yr 4 12 20]
noncomputable abbrev r59_2 : List RO := [⟨.l 22, (.bld [(.int .i64 0), (.int .i64 0)] []), [], none⟩, Yj 2 2 22, ⟨.v 3, .mv, [.con (.bool false)], none⟩]
noncomputable abbrev r59_3 : List RO := [Ya 23 1, Yv 24 .mul 23 64, Ya 25 1, Yv 26 .add 25 1, Yv 27 .mul 26 64, ⟨.l 28, (.bld [(.int .i64 0), (.int .i64 0)] [(0, 1), (1, 1)]), [.l 24, .l 27], none⟩, Yj 2 2 28, ⟨.v 3, .mv, [.con (.bool true)], none⟩]
theorem P59 : C59.M = M := rfl
theorem pe59 {n m : Nat} : (E59 n m).M = M := rfl
theorem ie59 {n m : Nat} {hp : Hp} {a0 a1 : D} : St.init (E59 n m) [a0, a1] hp = ⟨[a0, a1, .u0, .u0, .u0], [], hp⟩ := rfl
noncomputable def c59 : RC := (.seq (.reg r59_0) (.seq (.seq (.reg r59_1) (.cond (.v 4) (.seq (.reg r59_2) .ret) .skip)) (.seq (.reg r59_3) .ret)))
noncomputable def q59 : List RR := [(.cell (.v 2) true 2), (.slot (.v 3))]
theorem z59 {n m : Nat} : zAe (E59 n m) (Tryz.f59.body.getD .skip) = some c59 := by kernel_rfl
theorem k59 : FnOk M 59 2 Tryz.f59 E59 c59 q59 := fnOk Tryz.func59
noncomputable def E81 (n m : Nat) : Cfg := ⟨M, [0, 1, 4, 5, 6, 7, 15, 24], 27, n, m, []⟩
noncomputable def C81 : Cfg := E81 0 0
noncomputable abbrev r81_0 : List RO := [⟨.v 2, (.newb [(.int .i64 0), (.int .i64 0)]), [], none⟩, Ys 3 0]
noncomputable abbrev r81_1 : List RO := [Ya 8 0, ⟨.l 9, .eqN true .ptr, [.l 8, (.con (.lit (.pointer none)))], none⟩, Yc 10 9, Za 11 0 10 true, Zn 12 11 10 true, Zi 13 2 12 10 true, Zd 14 13 10 true, Yp 6 10 14]
noncomputable abbrev r81_2 : List RO := [⟨.l 16, (.bld [(.int .i64 0), (.int .i64 0)] []), [], none⟩, Yj 2 2 16, Ys 3 18]
noncomputable abbrev r81_3 : List RO := [Ya 18 0, Ya 19 1, Yu 20 59 18 19, Yc 17 20, Ym 21 0 17, Ym 22 1 17, ⟨.v 4, (.newb [(.int .i64 0), (.int .i64 0)]), [], none⟩, Yj 2 4 21, Yb 5 22]
noncomputable abbrev r81_4 : List RO := [Ya 23 5, ⟨.v 7, .un .not, [.l 23], none⟩]
noncomputable abbrev r81_5 : List RO := [⟨.l 25, (.bld [(.int .i64 0), (.int .i64 0)] []), [], none⟩, Yj 2 2 25, Ys 3 1]
noncomputable abbrev r81_6 : List RO := [Yf 26 2 4, Yj 2 2 26, Ys 3 0]
theorem P81 : C81.M = M := rfl
theorem pe81 {n m : Nat} : (E81 n m).M = M := rfl
theorem ie81 {n m : Nat} {hp : Hp} {a0 a1 : D} : St.init (E81 n m) [a0, a1] hp = ⟨[a0, a1, .u0, .u0, .u0, .u0, .u0, .u0], [], hp⟩ := rfl
noncomputable def c81 : RC := (.seq (.reg r81_0) (.seq (.seq (.reg r81_1) (.cond (.v 6) (.seq (.reg r81_2) .ret) .skip)) (.seq (.reg r81_3) (.seq (.seq (.reg r81_4) (.cond (.v 7) (.seq (.reg r81_5) .ret) .skip)) (.seq (.reg r81_6) .ret)))))
noncomputable def q81 : List RR := [(.cell (.v 2) true 2), (.slot (.v 3))]
theorem k81 : FnOk M 81 2 Tryz.f81 E81 c81 q81 := fnOk Tryz.func81
noncomputable def E41 (n m : Nat) : Cfg := ⟨M, [0, 1, 4, 5, 6, 7, 8, 16, 25, 39], 58, n, m, []⟩
noncomputable def C41 : Cfg := E41 0 0
noncomputable abbrev r41_0 : List RO := [⟨.v 2, .mv, [(.con (.str []))], none⟩, Ys 3 0]
noncomputable abbrev r41_1 : List RO := [Ya 10 0, Ya 11 1, Yu 12 81 10 11, Yc 9 12, Ym 13 0 9, Ym 14 1 9, ⟨.v 4, (.newb [(.int .i64 0), (.int .i64 0)]), [], none⟩, Yj 2 4 13, Yb 5 14]
noncomputable abbrev r41_2 : List RO := [Ya 15 5, Yz 7 .neq 15 0]
noncomputable abbrev r41_3 : List RO := [Ya 17 5, ⟨.v 2, .mv, [(.con (.str []))], none⟩, Yb 3 17]
noncomputable abbrev r41_4 : List RO := [Ya 18 0, Yn 19 18, Yi 20 1 19, Yd 21 20, ⟨.l 22, .lenL, [.l 21], none⟩, Yv 23 .sub 22 1, Yb 6 23]
noncomputable abbrev r41_5 : List RO := [Ya 24 6, Yz 8 .geq 24 0]
noncomputable abbrev r41_6 : List (RO × Bool) := [(Ya 28 0, true), (Yn 29 28, true), (Yi 30 1 29, true), (Yd 31 30, true), (Ya 32 6, true), (⟨.l 33, .ixaS 3, [.l 31, .l 32], none⟩, true), (Yi 34 0 33, true), (Yi 35 0 34, true), (Yd 36 35, true), (Yh 37 0 4, true), (Yd 38 37, true)]
noncomputable abbrev r41_7 : List RO := [Yy 9 .eql 36 38]
noncomputable abbrev r41_8 : List RO := [Ya 40 0, Yn 41 40, Yi 42 1 41, Yd 43 42, Ya 44 6, ⟨.l 45, .ixaS 3, [.l 43, .l 44], none⟩, Yi 46 2 45, Yd 47 46, Yb 2 47, Ys 3 0]
noncomputable abbrev r41_9 : List RO := [Ya 26 6, Yv 27 .sub 26 1, Yb 6 27]
noncomputable abbrev r41_10 : List (RO × Bool) := [(Ya 48 0, true), (Yn 49 48, true), (Yi 50 0 49, true), (Yd 51 50, true), (Yh 52 0 4, true), (Yd 53 52, true), (Yh 54 1 4, true), (Yd 55 54, true)]
noncomputable abbrev r41_11 : List RO := [⟨.l 56, .slcL 1 true true, [.l 51, .l 53, .l 55], none⟩, ⟨.l 57, .b2s, [.l 56], none⟩, Yb 2 57, Ys 3 0]
theorem P41 : C41.M = M := rfl
theorem pe41 {n m : Nat} : (E41 n m).M = M := rfl
theorem ie41 {n m : Nat} {hp : Hp} {a0 a1 : D} : St.init (E41 n m) [a0, a1] hp = ⟨[a0, a1, .u0, .u0, .u0, .u0, .u0, .u0, .u0, .u0], [], hp⟩ := rfl
noncomputable def c41 : RC := (.seq (.reg r41_0) (.seq (.reg r41_1) (.seq (.seq (.reg r41_2) (.cond (.v 7) (.seq (.reg r41_3) .ret) .skip)) (.seq (.seq (.reg r41_4) (.block 0 (.loop (.seq (.seq (.reg r41_5) (.cond (.v 8) .skip (.exit 0))) (.seq (.block 1 (.seq (.regD r41_6 r41_7) (.cond (.v 9) (.seq (.reg r41_8) .ret) .skip))) (.reg r41_9)))))) (.seq (.regD r41_10 r41_11) .ret)))))
noncomputable def q41 : List RR := [(.slot (.v 2)), (.slot (.v 3))]
theorem k41 : FnOk M 41 2 Tryz.f41 E41 c41 q41 := fnOk Tryz.func41
noncomputable def E147 (n m : Nat) : Cfg := ⟨M, [0, 2, 7, 15], 42, n, m, []⟩
noncomputable def C147 : Cfg := E147 0 0
noncomputable abbrev r147_0 : List RO := [Ys 1 0]
noncomputable abbrev r147_1 : List RO := [Ya 3 0, Yn 4 3, Yi 5 3 4, Yd 6 5, ⟨.v 2, .eqN false .ptr, [.l 6, (.con (.lit (.pointer none)))], none⟩]
noncomputable abbrev r147_2 : List RO := [Ys 1 0]
noncomputable abbrev r147_3 : List RO := [Ya 8 0, Yn 9 8, Yi 10 3 9, Yd 11 10, Yn 12 11, Yi 13 0 12, Yd 14 13, Yz 3 .gtr 14 0]
noncomputable abbrev r147_4 : List RO := [Ya 16 0, Yn 17 16, Yi 18 3 17, Yd 19 18, Yn 20 19, Yi 21 0 20, Yd 22 21, Yv 23 .sub 22 1, Yn 24 19, Yi 25 0 24, Yk 1 25 23]
noncomputable abbrev r147_5 : List RO := [Ys 1 0]
noncomputable abbrev r147_6 : List (RO × Bool) := [(Ya 26 0, true), (Ya 27 0, true), (Yn 28 27, true), (Yi 29 3 28, true), (Yd 30 29, true), (Yn 31 30, true), (Yi 32 1 31, true), (Yd 33 32, true), (Ya 34 0, true), (Yn 35 34, true), (Yi 36 3 35, true), (Yd 37 36, true), (Yn 38 37, true), (Yi 39 2 38, true), (Yd 40 39, true)]
noncomputable abbrev r147_7 : List RO := [⟨.l 41, .calls .fn, [(.con (.fn (.func 29) [] [])), .l 26, .l 33, .l 40], none⟩]
noncomputable abbrev r147_8 : List RO := [Ys 1 18]
theorem P147 : C147.M = M := rfl
theorem pe147 {n m : Nat} : (E147 n m).M = M := rfl
theorem ie147 {n m : Nat} {hp : Hp} {a0 : D} : St.init (E147 n m) [a0] hp = ⟨[a0, .u0, .u0, .u0], [], hp⟩ := rfl
noncomputable def c147 : RC := (.seq (.reg r147_0) (.seq (.seq (.reg r147_1) (.cond (.v 2) (.seq (.reg r147_2) .ret) .skip)) (.seq (.seq (.reg r147_3) (.cond (.v 3) (.seq (.reg r147_4) (.seq (.reg r147_5) .ret)) .skip)) (.seq (.regD r147_6 r147_7) (.seq (.reg r147_8) .ret)))))
noncomputable def q147 : List RR := [(.slot (.v 1))]
theorem k147 : FnOk M 147 1 Tryz.f147 E147 c147 q147 := fnOk Tryz.func147
noncomputable def E121 (n m : Nat) : Cfg := ⟨M, [0, 1, 2, 6, 7, 8, 16, 20], 35, n, m, []⟩
noncomputable def C121 : Cfg := E121 0 0
noncomputable abbrev r121_0 : List RO := [Ys 3 0]
noncomputable abbrev r121_1 : List RO := [Ya 10 0, Ya 11 1, Yu 12 81 10 11, Yc 9 12, Ym 13 0 9, Ym 14 1 9, ⟨.v 4, (.newb [(.int .i64 0), (.int .i64 0)]), [], none⟩, Yj 2 4 13, Yb 5 14]
noncomputable abbrev r121_2 : List RO := [Ya 15 5, Yz 6 .neq 15 0]
noncomputable abbrev r121_3 : List RO := [Ya 17 5, Yb 3 17]
noncomputable abbrev r121_4 : List RO := [Ya 18 2, ⟨.l 19, .lenS, [.l 18], none⟩, Yz 7 .neq 19 64]
noncomputable abbrev r121_5 : List RO := [Ys 3 1]
noncomputable abbrev r121_6 : List (RO × Bool) := [(Ya 21 0, true), (Ya 22 0, true), (Yn 23 22, true), (Yi 24 1 23, true), (Yd 25 24, true), (Yf 26 2 4, true), (Ya 27 2, true), (⟨.l 28, (.bld [(.int .i64 0), (.int .i64 0), (.str [])] [(0, 2), (2, 1)]), [.l 26, .l 27], none⟩, true), (⟨.l 29, .bsl 3, [.l 28], none⟩, true), (⟨.l 30, .app 3 32 103, [.l 25, .l 29], none⟩, false)]
noncomputable abbrev r121_7 : List RO := [Yn 31 21, Yi 32 1 31, Yk 1 32 30]
noncomputable abbrev r121_8 : List RO := [Ya 33 0, Yt 34 147 33, Yb 3 34]
theorem P121 : C121.M = M := rfl
theorem pe121 {n m : Nat} : (E121 n m).M = M := rfl
theorem ie121 {n m : Nat} {hp : Hp} {a0 a1 a2 : D} : St.init (E121 n m) [a0, a1, a2] hp = ⟨[a0, a1, a2, .u0, .u0, .u0, .u0, .u0], [], hp⟩ := rfl
noncomputable def c121 : RC := (.seq (.reg r121_0) (.seq (.reg r121_1) (.seq (.seq (.reg r121_2) (.cond (.v 6) (.seq (.reg r121_3) .ret) .skip)) (.seq (.seq (.reg r121_4) (.cond (.v 7) (.seq (.reg r121_5) .ret) .skip)) (.seq (.regD r121_6 r121_7) (.seq (.reg r121_8) .ret))))))
noncomputable def q121 : List RR := [(.slot (.v 3))]
theorem k121 : FnOk M 121 3 Tryz.f121 E121 c121 q121 := fnOk Tryz.func121
noncomputable def E60 (n m : Nat) : Cfg := ⟨M, [0, 1, 5, 6, 7, 8, 9], 19, n, m, []⟩
noncomputable def C60 : Cfg := E60 0 0
noncomputable abbrev r60_0 : List RO := [⟨.v 3, .mv, [.v 1], none⟩, ⟨.v 4, .lenL, [.v 3], none⟩, Ys 5 0]
noncomputable abbrev r60_1 : List RO := [⟨.v 6, .bin .lss, [.v 5, .v 4], none⟩]
noncomputable abbrev r60_2 : List RO := [⟨.l 10, .ixaS 3, [.v 3, .v 5], none⟩, Yg 11 3 10, ⟨.v 2, (.newb [(.int .i64 0), (.int .i64 0), (.str [])]), [], none⟩, Yj 3 2 11]
noncomputable abbrev r60_3 : List RO := [Ya 12 0, Yh 13 0 2, Yg 14 2 13, Yh 15 2 2, Yd 16 15, ⟨.l 17, .calls .fn, [(.con (.fn (.func 61) [] [])), .l 12, .l 14, .l 16], none⟩]
noncomputable abbrev r60_4 : List RO := [Yw 18 .add 5 1, Yb 5 18]
theorem P60 : C60.M = M := rfl
theorem pe60 {n m : Nat} : (E60 n m).M = M := rfl
theorem ie60 {n m : Nat} {hp : Hp} {a0 a1 : D} : St.init (E60 n m) [a0, a1] hp = ⟨[a0, a1, .u0, .u0, .u0, .u0, .u0], [], hp⟩ := rfl
noncomputable def c60 : RC := (.seq (.reg r60_0) (.block 0 (.loop (.seq (.reg r60_1) (.seq (.cond (.v 6) .skip (.exit 0)) (.seq (.block 1 (.seq (.reg r60_2) (.reg r60_3))) (.reg r60_4)))))))
noncomputable def q60 : List RR := []
theorem k60 : FnOk M 60 2 Tryz.f60 E60 c60 q60 := fnOk Tryz.func60
noncomputable def E61 (n m : Nat) : Cfg := ⟨M, [0, 1, 2, 4], 17, n, m, []⟩
noncomputable def C61 : Cfg := E61 0 0
noncomputable abbrev r61_0 : List RO := [Yl 3 1]
noncomputable abbrev r61_1 : List (RO × Bool) := [(Ya 6 0, true), (Yn 7 6, true), (Yi 8 0 7, true), (Yd 9 8, true), (Yh 10 0 3, true), (Yd 11 10, true), (Yh 12 1 3, true), (Yd 13 12, true), (⟨.l 14, .slcL 1 true true, [.l 9, .l 11, .l 13], none⟩, true), (Ya 15 2, true)]
noncomputable abbrev r61_2 : List RO := [⟨.l 16, .cpy 1, [.l 14, .l 15], none⟩]
theorem P61 : C61.M = M := rfl
theorem pe61 {n m : Nat} : (E61 n m).M = M := rfl
theorem ie61 {n m : Nat} {hp : Hp} {a0 a1 a2 : D} : St.init (E61 n m) [a0, a1, a2] hp = ⟨[a0, a1, a2, .u0], [], hp⟩ := rfl
noncomputable def c61 : RC := (.seq (.reg r61_0) (.regD r61_1 r61_2))
noncomputable def q61 : List RR := []
theorem k61 : FnOk M 61 3 Tryz.f61 E61 c61 q61 := fnOk Tryz.func61
noncomputable def E122 (n m : Nat) : Cfg := ⟨M, [0, 2, 3, 5, 9, 13], 24, n, m, []⟩
noncomputable def C122 : Cfg := E122 0 0
noncomputable abbrev r122_0 : List RO := [Ys 1 0]
noncomputable abbrev r122_1 : List RO := [Ya 4 0, ⟨.v 3, .eqN false .ptr, [.l 4, (.con (.lit (.pointer none)))], none⟩]
noncomputable abbrev r122_2 : List RO := [Ys 1 1]
noncomputable abbrev r122_3 : List RO := [Ya 6 0, Yn 7 6, Yi 8 2 7, ⟨.v 4, .ld false 1, [.l 8], none⟩]
noncomputable abbrev r122_4 : List RO := [Ys 1 18]
noncomputable abbrev r122_5 : List RO := [Ya 10 0, Yt 11 147 10, Yb 2 11]
noncomputable abbrev r122_6 : List RO := [Ya 12 2, Yz 5 .neq 12 0]
noncomputable abbrev r122_7 : List RO := [Ya 14 2, Yb 1 14]
noncomputable abbrev r122_8 : List RO := [Ya 15 0, Ya 16 0, Yn 17 16, Yi 18 1 17, Yd 19 18, Yu 20 60 15 19]
noncomputable abbrev r122_9 : List RO := [Ya 21 0, Yn 22 21, Yi 23 1 22, ⟨.none, .st 1, [.l 23, (.con (.lit (.slice none 0 0)))], none⟩]
noncomputable abbrev r122_10 : List RO := [Ys 1 0]
theorem P122 : C122.M = M := rfl
theorem pe122 {n m : Nat} : (E122 n m).M = M := rfl
theorem ie122 {n m : Nat} {hp : Hp} {a0 : D} : St.init (E122 n m) [a0] hp = ⟨[a0, .u0, .u0, .u0, .u0, .u0], [], hp⟩ := rfl
noncomputable def c122 : RC := (.seq (.reg r122_0) (.seq (.seq (.reg r122_1) (.cond (.v 3) (.seq (.reg r122_2) .ret) .skip)) (.seq (.seq (.reg r122_3) (.cond (.v 4) (.seq (.reg r122_4) .ret) .skip)) (.seq (.seq (.reg r122_5) (.seq (.reg r122_6) (.cond (.v 5) (.seq (.reg r122_7) .ret) .skip))) (.seq (.reg r122_8) (.seq (.reg r122_9) (.seq (.reg r122_10) .ret)))))))
noncomputable def q122 : List RR := [(.slot (.v 1))]
theorem k122 : FnOk M 122 1 Tryz.f122 E122 c122 q122 := fnOk Tryz.func122
noncomputable def E22 (n m : Nat) : Cfg := ⟨M, [0, 2, 4], 10, n, m, []⟩
noncomputable def C22 : Cfg := E22 0 0
noncomputable abbrev r22_0 : List RO := [⟨.v 1, .mv, [(.con (.str []))], none⟩]
noncomputable abbrev r22_1 : List RO := [Ya 3 0, ⟨.v 2, .eqN false .ptr, [.l 3, (.con (.lit (.pointer none)))], none⟩]
noncomputable abbrev r22_2 : List RO := [⟨.v 1, .mv, [(.con (.str []))], none⟩]
noncomputable abbrev r22_3 : List RO := [Ya 5 0, Yn 6 5, Yi 7 0 6, Yd 8 7, ⟨.l 9, .b2s, [.l 8], none⟩, Yb 1 9]
theorem P22 : C22.M = M := rfl
theorem pe22 {n m : Nat} : (E22 n m).M = M := rfl
theorem ie22 {n m : Nat} {hp : Hp} {a0 : D} : St.init (E22 n m) [a0] hp = ⟨[a0, .u0, .u0], [], hp⟩ := rfl
noncomputable def c22 : RC := (.seq (.reg r22_0) (.seq (.seq (.reg r22_1) (.cond (.v 2) (.seq (.reg r22_2) .ret) .skip)) (.seq (.reg r22_3) .ret)))
noncomputable def q22 : List RR := [(.slot (.v 1))]
theorem k22 : FnOk M 22 1 Tryz.f22 E22 c22 q22 := fnOk Tryz.func22
noncomputable def E86 (n m : Nat) : Cfg := ⟨M, [0, 1, 4, 5], 19, n, m, []⟩
noncomputable abbrev r86_0 : List RO := [Ys 2 0, ⟨.v 3, .mv, [(.con (.lit .nilIface))], none⟩]
noncomputable abbrev r86_1 : List RO := [Ya 6 0, Yt 7 116 6]
noncomputable abbrev r86_2 : List RO := [Ya 8 0, Ya 9 0, Yn 10 9, Yi 11 1 10, Yd 12 11, Ya 13 1, ⟨.l 14, .app 1 1 5, [.l 12, .l 13], none⟩, Yn 15 8, Yi 16 1 15, Yk 1 16 14]
noncomputable abbrev r86_3 : List RO := [Ya 17 1, ⟨.l 18, .lenS, [.l 17], none⟩, Yb 2 18, ⟨.v 3, .mv, [(.con (.lit .nilIface))], none⟩]
theorem pe86 {n m : Nat} : (E86 n m).M = M := rfl
theorem ie86 {n m : Nat} {hp : Hp} {a0 a1 : D} : St.init (E86 n m) [a0, a1] hp = ⟨[a0, a1, .u0, .u0], [], hp⟩ := rfl
noncomputable def c86 : RC := (.seq (.reg r86_0) (.seq (.reg r86_1) (.seq (.reg r86_2) (.seq (.reg r86_3) .ret))))
noncomputable def q86 : List RR := [(.slot (.v 2)), (.slot (.v 3))]
theorem k86 : FnOk M 86 2 Tryz.f86 E86 c86 q86 := fnOk Tryz.func86
end Go.Proofs.YtkobjnpmjngklaaGreatDoor
end