/- The engine, part a: data values, the abstract store, resolved operations and their evaluation. Own work; no program in sight. -/
import Derived.WalkKit
import Derived.WalkSpells
import Derived.Lib.Strings
namespace GoV
open Go

/-- What is known of the memory of a slice that is only read: nothing; that it has no room behind it; that it may be appended to. -/
inductive Own where
  | no
  | full
  | tok (t : Nat)

/-- Data values: what a slot or a cell holds, as far as a proof wants to know. -/
inductive D where
  | undef
  | skip
  | int (k : IntKind) (n : Int)
  | bool (b : Bool)
  | str (s : List UInt8)
  | lit (v : Value)
  | slice (es : List D) (own : Own)
  | agg (cs : List D)
  | tup (vs : List D)
  | iface (t : Nat) (d : D)
  | fn (f : Fn) (first cap : List D)
  | ptr (b off : Nat)
  | ip (cs : List D)
  | sl (b k off len cap : Nat)
  | gs (t n : Nat)
  | gp (t n off : Nat)
  | mp (b : Nat)

instance : Inhabited D := ⟨.undef⟩

def D.cells : D → List D
  | .agg cs => cs
  | d => [d]

def D.isVal : D → Bool
  | .undef => false
  | .skip => false
  | .tup _ => false
  | _ => true

mutual
def D.er : D → D
  | .slice es _ => .slice es .no
  | .agg cs => .agg (D.erL cs)
  | .tup vs => .tup (D.erL vs)
  | .iface t d => .iface t (D.er d)
  | .fn f a c => .fn f (D.erL a) (D.erL c)
  | .undef => .undef
  | .skip => .skip
  | .int k n => .int k n
  | .bool b => .bool b
  | .str s => .str s
  | .lit v => .lit v
  | .ptr b o => .ptr b o
  | .ip cs => .ip cs
  | .sl b k o l c => .sl b k o l c
  | .gs t n => .gs t n
  | .gp t n o => .gp t n o
  | .mp b => .mp b
def D.erL : List D → List D
  | [] => []
  | d :: ds => D.er d :: D.erL ds
end

mutual
def D.closed : D → Bool
  | .agg cs => D.closedL cs
  | .tup vs => D.closedL vs
  | .iface _ d => D.closed d
  | .fn _ a c => D.closedL a && D.closedL c
  | .ptr _ _ => false
  | .sl _ _ _ _ _ => false
  | .gs _ _ => false
  | .gp _ _ _ => false
  | .mp _ => false
  | .undef => true
  | .skip => true
  | .int _ _ => true
  | .bool _ => true
  | .str _ => true
  | .lit _ => true
  | .slice _ _ => true
  | .ip _ => true
def D.closedL : List D → Bool
  | [] => true
  | d :: ds => D.closed d && D.closedL ds
end

def Own.rn (τ : Nat → Option Nat) : Own → Own
  | .tok t => match τ t with
    | some u => .tok u
    | none => .no
  | .full => .full
  | .no => .no

mutual
/-- Other numbers for blocks and tokens; what has none is forgotten. -/
def D.rn (β τ : Nat → Option Nat) : D → D
  | .slice es o => .slice es (o.rn τ)
  | .agg cs => .agg (D.rnL β τ cs)
  | .tup vs => .tup (D.rnL β τ vs)
  | .iface t d => .iface t (D.rn β τ d)
  | .fn f a c => .fn f (D.rnL β τ a) (D.rnL β τ c)
  | .undef => .undef
  | .skip => .skip
  | .int k n => .int k n
  | .bool b => .bool b
  | .str s => .str s
  | .lit v => .lit v
  | .ptr b o => match β b with
    | some c => .ptr c o
    | none => .undef
  | .ip cs => .ip cs
  | .sl b k o l c => match β b with
    | some e => .sl e k o l c
    | none => .undef
  | .gs t n => match τ t with
    | some u => .gs u n
    | none => .undef
  | .gp t n o => match τ t with
    | some u => .gp u n o
    | none => .undef
  | .mp b => match β b with
    | some c => .mp c
    | none => .undef
def D.rnL (β τ : Nat → Option Nat) : List D → List D
  | [] => []
  | d :: ds => D.rn β τ d :: D.rnL β τ ds
end

inductive Blk where
  | cells (cs : List D)
  | gone
  | map (es : List (D × D))
  | siter (s : List UInt8) (pos : Nat)
  | tcells (e : TypeId) (cs : List D)

instance : Inhabited Blk := ⟨.cells []⟩

/-- What is known of a growing slice: its cells' number alone (what it holds never changes), or what it holds now. -/
inductive Tv where
  | per (k len : Nat)
  | chg (k : Nat) (cs : List D)
  | byt (e : TypeId) (bs : List UInt8)

instance : Inhabited Tv := ⟨.per 0 0⟩

structure Hp where
  H : List Blk
  tk : List Tv

def pairs (β τ : Nat → Option Nat) : List (D × D) → List (D × D)
  | [] => []
  | (a, b) :: r => (D.rn β τ a, D.rn β τ b) :: pairs β τ r

def Blk.rn (β τ : Nat → Option Nat) : Blk → Blk
  | .cells cs => .cells (D.rnL β τ cs)
  | .gone => .gone
  | .map es => .map (pairs β τ es)
  | .siter s p => .siter s p
  | .tcells e cs => .tcells e (D.rnL β τ cs)

def Tv.rn (β τ : Nat → Option Nat) : Tv → Tv
  | .per k n => .per k n
  | .chg k cs => .chg k (D.rnL β τ cs)
  | .byt e bs => .byt e bs

inductive Opd where
  | loc (t : Nat)
  | var (i : Nat)
  | con (d : D)

structure St where
  env : List D
  scr : List (Nat × D)
  hp : Hp

def lk : List (Nat × D) → Nat → D
  | [], _ => .undef
  | (t, d) :: r, u => if t = u then d else lk r u

def St.get (s : St) : Opd → D
  | .loc t => lk s.scr t
  | .var i => s.env.getD i .undef
  | .con d => d

inductive Dst where
  | none
  | loc (t : Nat)
  | var (i : Nat)

def St.put (s : St) : Dst → D → St
  | .none, _ => s
  | .loc t, d => { s with scr := (t, d) :: s.scr }
  | .var i, d => { s with env := s.env.set i d }

/-- Replaces what a slot of the region holds. -/
def setK : List (Nat × D) → Nat → D → List (Nat × D)
  | [], t, d => [(t, d)]
  | (u, e) :: r, t, d => if u = t then (t, d) :: r else (u, e) :: setK r t d

def St.setO (s : St) : Opd → D → St
  | .loc t, d => { s with scr := setK s.scr t d }
  | .var i, d => { s with env := s.env.set i d }
  | .con _, _ => s

theorem lk_setK (l : List (Nat × D)) (t : Nat) (d : D) (u : Nat) : lk (setK l t d) u = if t = u then d else lk l u := by
  induction l with
  | nil => simp [setK, lk]
  | cons p r ih =>
    obtain ⟨v, e⟩ := p
    simp only [setK]
    by_cases h : v = t
    · subst h
      simp only [if_true, lk]
      split <;> rfl
    · simp only [h, if_false, lk, ih]
      by_cases h1 : v = u
      · subst h1; simp [show ¬ t = v from fun e => h e.symm]
      · simp [h1]

def St.done (s : St) : St := { s with scr := [] }

/-- Kinds of the leaves that are compared. -/
inductive EK where
  | int | bool | str

inductive OC where
  | mv
  | nck
  | pick
  | bin (op : BinOp)
  | eqB (neg : Bool)
  | eqA (neg : Bool) (ks : List EK)
  | eqN (neg : Bool)
  | un (op : UnOp)
  | cvI (k : IntKind)
  | newb (zero : List D)
  | newT (e : TypeId) (zero : List D)
  | box
  | bld (zero : List D) (parts : List (Nat × Nat))
  | bsl (k : Nat)
  | mks (k bytes : Nat) (zero : List D)
  | ld (agg : Bool) (n : Nat)
  | st (n : Nat)
  | fld (off : Nat)
  | fv (agg : Bool) (off n : Nat)
  | ixaA (len k : Nat)
  | ixaS (k : Nat)
  | ixvA (agg : Bool) (len k : Nat)
  | ixvS
  | slcS (lo hi : Bool)
  | slcL (k : Nat) (lo hi : Bool)
  | slcA (n k : Nat) (lo hi : Bool)
  | b2s
  | cvS
  | cpy (k : Nat)
  | rngS
  | nxtS
  | ext (i : Nat)
  | call
  | lenS
  | lenL
  | lenA (n : Nat)
  | minI
  | maxI
  | app (k bytes : Nat) (e : TypeId)
  | mkI (t : Nat)
  | mkF (f : Fn) (n : Nat)

/-- Replaces elements from a place on. -/
def setL (cs : List D) (off : Nat) : List D → List D
  | [] => cs
  | d :: ds => setL (cs.set off d) (off + 1) ds

def fillL (cs : List D) : List (Nat × Nat) → List D → Option (List D)
  | [], [] => some cs
  | (off, n) :: ps, d :: ds =>
    if d.isVal = true ∧ d.cells.length = n ∧ off + n ≤ cs.length then fillL (setL cs off d.cells) ps ds else none
  | _, _ => none

def eqD : EK → D → D → Option Bool
  | .int, .int k a, .int k' b => if k = k' then some (a == b) else none
  | .bool, .bool a, .bool b => some (a == b)
  | .str, .str a, .str b => some (a == b)
  | _, _, _ => none

def eqDs : List EK → List D → List D → Option Bool
  | [], [], [] => some true
  | e :: es, x :: xs, y :: ys =>
    match eqD e x y, eqDs es xs ys with
    | some a, some b => some (a && b)
    | _, _ => none
  | _, _, _ => none

def bitsV (op : BinOp) (k : IntKind) (x y : Int) : Int := Go.bits op k x y

def isNil : D → Option Bool
  | .lit (.pointer none) => some true
  | .lit (.slice none 0 0) => some true
  | .lit (.map none) => some true
  | .lit .nilFunc => some true
  | .lit .nilIface => some true
  | .slice (_ :: _) _ => some false
  | .ptr _ _ => some false
  | .ip _ => some false
  | .sl _ _ _ _ _ => some false
  | .gp _ _ _ => some false
  | .mp _ => some false
  | .fn _ _ _ => some false
  | .iface _ _ => some false
  | _ => none

def binWp (op : BinOp) (x y : D) (K : D → Prop) : Prop :=
  match op, x, y with
  | .add, .int k a, .int k' b => k = k' ∧ K (.int k (k.wrap (a + b)))
  | .sub, .int k a, .int k' b => k = k' ∧ K (.int k (k.wrap (a - b)))
  | .mul, .int k a, .int k' b => k = k' ∧ K (.int k (k.wrap (a * b)))
  | .quo, .int k a, .int k' b => k = k' ∧ b ≠ 0 ∧ K (.int k (k.wrap (a.tdiv b)))
  | .rem, .int k a, .int k' b => k = k' ∧ b ≠ 0 ∧ K (.int k (a.tmod b))
  | .and, .int k a, .int k' b => k = k' ∧ K (.int k (bitsV .and k a b))
  | .or, .int k a, .int k' b => k = k' ∧ K (.int k (bitsV .or k a b))
  | .xor, .int k a, .int k' b => k = k' ∧ K (.int k (bitsV .xor k a b))
  | .andNot, .int k a, .int k' b => k = k' ∧ K (.int k (bitsV .andNot k a b))
  | .shl, .int k a, .int _ b => 0 ≤ b ∧ K (.int k (k.wrap (a * 2 ^ (min b.toNat k.bits))))
  | .shr, .int k a, .int _ b => 0 ≤ b ∧ K (.int k (a.fdiv (2 ^ (min b.toNat k.bits))))
  | .eql, .int k a, .int k' b => k = k' ∧ K (.bool (a == b))
  | .neq, .int k a, .int k' b => k = k' ∧ K (.bool (a != b))
  | .lss, .int k a, .int k' b => k = k' ∧ K (.bool (decide (a < b)))
  | .leq, .int k a, .int k' b => k = k' ∧ K (.bool (decide (a ≤ b)))
  | .gtr, .int k a, .int k' b => k = k' ∧ K (.bool (decide (a > b)))
  | .geq, .int k a, .int k' b => k = k' ∧ K (.bool (decide (a ≥ b)))
  | .add, .str a, .str b => a.length + b.length ≤ 4611686018427387904 ∧ K (.str (a ++ b))
  | .eql, .str a, .str b => K (.bool (a == b))
  | .neq, .str a, .str b => K (.bool (!(a == b)))
  | .lss, .str a, .str b => K (.bool (Op.bytesLess a b))
  | .leq, .str a, .str b => K (.bool (Op.bytesLess a b || a == b))
  | .gtr, .str a, .str b => K (.bool (!(Op.bytesLess a b || a == b)))
  | .geq, .str a, .str b => K (.bool (!(Op.bytesLess a b)))
  | _, _, _ => False

def unWp (op : UnOp) (x : D) (K : D → Prop) : Prop :=
  match op, x with
  | .neg, .int k n => K (.int k (k.wrap (0 - n)))
  | .xor, .int k n => K (.int k (bitsV .xor k (if k.signed then -1 else k.max) n))
  | .not, .bool b => K (.bool (!b))
  | _, _ => False

/-- The elements that cells make: of one cell each, or of more. -/
def chunk (k : Nat) : Nat → List D → List D
  | 0, _ => []
  | n + 1, cs => (if k = 1 then cs.getD 0 .undef else .agg (cs.take k)) :: chunk k n (cs.drop k)

def flatD : List D → List D
  | [] => []
  | d :: ds => d.cells ++ flatD ds

/-- Every element is a value of k cells. -/
def elemsK (k : Nat) : List D → Bool
  | [] => true
  | d :: ds => d.isVal && d.cells.length == k && elemsK k ds

def dlen : D → Int
  | .slice es _ => es.length
  | .sl _ _ _ len _ => len
  | .gs _ n => n
  | .lit (.slice none 0 0) => 0
  | _ => -1

def foldI (f : Int → Int → Int) : IntKind → Int → List D → Option Int
  | _, n, [] => some n
  | k, n, .int k' m :: r => if k = k' then foldI f k (f n m) r else none
  | _, _, _ => none

end GoV
