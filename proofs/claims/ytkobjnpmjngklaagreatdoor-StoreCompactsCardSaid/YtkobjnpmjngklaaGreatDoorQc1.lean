/- Own texts, merged by a program: the engine that walks the code, and what the functions that the law reaches compute. -/
import Derived.WalkKit
import Derived.WalkSpells
import Derived.Lib.Strings
import Derived.Laws.AppendOwn
import Derived.Laws.MakeOwn
import Derived.Laws.BytesString
import Derived.Laws.NewFold
import Derived.Laws.RangeAny
import Derived.Laws.RangeString
section
namespace GoV
open Go
inductive Own where
 | no
 | full
 | tok (t : Nat)
inductive D where
 | u0
 | skip
 | int (k : IntKind) (n : Int)
 | bool (b : Bool)
 | str (s : List UInt8)
 | lit (v : Value)
 | slice (es : List D) (own : Own)
 | agg (cs : List D)
 | tup (vs : List D)
 | iface (t : Nat) (d : D)
 | fn (f : Fn) (first cap : List D)
 | ptr (b off : Nat)
 | ip (cs : List D)
 | sl (b k off len cap : Nat)
 | gs (t n : Nat)
 | gp (t n off : Nat)
 | mp (b : Nat)
instance : Inhabited D := ⟨.u0⟩
def D.cells : D → List D
 | .agg cs => cs
 | d => [d]
def D.iV : D → Bool
 | .u0 => false
 | .skip => false
 | .tup _ => false
 | _ => true
mutual
def D.er : D → D
 | .slice es _ => .slice es .no
 | .agg cs => .agg (D.erL cs)
 | .tup vs => .tup (D.erL vs)
 | .iface t d => .iface t (D.er d)
 | .fn f a c => .fn f (D.erL a) (D.erL c)
 | .u0 => .u0
 | .skip => .skip
 | .int k n => .int k n
 | .bool b => .bool b
 | .str s => .str s
 | .lit v => .lit v
 | .ptr b o => .ptr b o
 | .ip cs => .ip cs
 | .sl b k o l c => .sl b k o l c
 | .gs t n => .gs t n
 | .gp t n o => .gp t n o
 | .mp b => .mp b
def D.erL : List D → List D
 | [] => []
 | d :: ds => D.er d :: D.erL ds
end
mutual
def D.closed : D → Bool
 | .agg cs => D.cL cs
 | .tup vs => D.cL vs
 | .iface _ d => D.closed d
 | .fn _ a c => D.cL a && D.cL c
 | .ptr _ _ => false
 | .sl _ _ _ _ _ => false
 | .gs _ _ => false
 | .gp _ _ _ => false
 | .mp _ => false
 | .u0 => true
 | .skip => true
 | .int _ _ => true
 | .bool _ => true
 | .str _ => true
 | .lit _ => true
 | .slice _ _ => true
 | .ip _ => true
def D.cL : List D → Bool
 | [] => true
 | d :: ds => D.closed d && D.cL ds
end
def Own.rn (τ : Nat → Option Nat) : Own → Own
 | .tok t => match τ t with
   | some u => .tok u
   | none => .no
 | .full => .full
 | .no => .no
mutual
def D.rn (β τ : Nat → Option Nat) : D → D
 | .slice es o => .slice es (o.rn τ)
 | .agg cs => .agg (D.rnL β τ cs)
 | .tup vs => .tup (D.rnL β τ vs)
 | .iface t d => .iface t (D.rn β τ d)
 | .fn f a c => .fn f (D.rnL β τ a) (D.rnL β τ c)
 | .u0 => .u0
 | .skip => .skip
 | .int k n => .int k n
 | .bool b => .bool b
 | .str s => .str s
 | .lit v => .lit v
 | .ptr b o => match β b with
   | some c => .ptr c o
   | none => .u0
 | .ip cs => .ip cs
 | .sl b k o l c => match β b with
   | some e => .sl e k o l c
   | none => .u0
 | .gs t n => match τ t with
   | some u => .gs u n
   | none => .u0
 | .gp t n o => match τ t with
   | some u => .gp u n o
   | none => .u0
 | .mp b => match β b with
   | some c => .mp c
   | none => .u0
def D.rnL (β τ : Nat → Option Nat) : List D → List D
 | [] => []
 | d :: ds => D.rn β τ d :: D.rnL β τ ds
end
inductive Blk where
 | cells (cs : List D)
 | gone
 | map (es : List (D × D × Nat)) (clock : Nat)
 | miter (m since : Nat) (seen : List Nat) (stepped : Nat)
 | raw (o : Obj)
 | tcells (e : TypeId) (cs : List D)
instance : Inhabited Blk := ⟨.cells []⟩
abbrev Blk.siter (s : List UInt8) (p : Nat) : Blk := .raw (.stringIter ⟨s.toArray⟩ p)
inductive Tv where
 | per (k len : Nat)
 | chg (k : Nat) (cs : List D)
 | byt (e : TypeId) (bs : List UInt8)
instance : Inhabited Tv := ⟨.per 0 0⟩
structure Hp where
 H : List Blk
 tk : List Tv
def pairs (β τ : Nat → Option Nat) : List (D × D × Nat) → List (D × D × Nat)
 | [] => []
 | (a, b, n) :: r => (D.rn β τ a, D.rn β τ b, n) :: pairs β τ r
def Blk.rn (β τ : Nat → Option Nat) : Blk → Blk
 | .cells cs => .cells (D.rnL β τ cs)
 | .gone => .gone
 | .map es c => .map (pairs β τ es) c
 | .miter m s seen st => match β m with
   | some c => .miter c s seen st
   | none => .gone
 | .raw o => .raw o
 | .tcells e cs => .tcells e (D.rnL β τ cs)
def Tv.rn (β τ : Nat → Option Nat) : Tv → Tv
 | .per k n => .per k n
 | .chg k cs => .chg k (D.rnL β τ cs)
 | .byt e bs => .byt e bs
inductive Opd where
 | l (t : Nat)
 | v (i : Nat)
 | con (d : D)
structure St where
 env : List D
 scr : List (Nat × D)
 hp : Hp
def lk : List (Nat × D) → Nat → D
 | [], _ => .u0
 | (t, d) :: r, u => if t = u then d else lk r u
def St.get (s : St) : Opd → D
 | .l t => lk s.scr t
 | .v i => s.env.getD i .u0
 | .con d => d
inductive Dst where
 | none
 | l (t : Nat)
 | v (i : Nat)
def St.put (s : St) : Dst → D → St
 | .none, _ => s
 | .l t, d => { s with scr := (t, d) :: s.scr }
 | .v i, d => { s with env := s.env.set i d }
def setK : List (Nat × D) → Nat → D → List (Nat × D)
 | [], t, d => [(t, d)]
 | (u, e) :: r, t, d => if u = t then (t, d) :: r else (u, e) :: setK r t d
def St.setO (s : St) : Opd → D → St
 | .l t, d => { s with scr := setK s.scr t d }
 | .v i, d => { s with env := s.env.set i d }
 | .con _, _ => s
theorem lk_setK (l : List (Nat × D)) (t : Nat) (d : D) (u : Nat) : lk (setK l t d) u = if t = u then d else lk l u := by
 induction l with
 | nil => simp [setK, lk]
 | cons p r ih =>
   obtain ⟨v, e⟩ := p
   simp only [setK]
   by_cases h : v = t
   ·subst h
    simp only [if_true, lk]
    split <;> rfl
   ·simp only [h, if_false, lk, ih]
    by_cases h1 : v = u
    ·subst h1; simp [show ¬ t = v from fun e => h e.symm]
    ·simp [h1]
def St.done (s : St) : St := { s with scr := [] }
inductive EK where
 | int | bool | str
inductive MK where
 | int (k : IntKind) | bool | str
 | st (ks : List EK)
def sok : EK → D → Bool
 | .int, .int .i64 _ => true
 | .bool, .bool _ => true
 | .str, .str _ => true
 | _, _ => false
def sokL : List EK → List D → Bool
 | [], [] => true
 | e :: ks, d :: ds => sok e d && sokL ks ds
 | _, _ => false
def keyOk : MK → D → Bool
 | .int k, .int k' _ => k == k'
 | .bool, .bool _ => true
 | .str, .str _ => true
 | .st ks, .agg cs => sokL ks cs
 | _, _ => false
def keq1 : D → D → Bool
 | .int _ a, .int _ b => a == b
 | .bool a, .bool b => a == b
 | .str a, .str b => a == b
 | _, _ => false
def keqL : List D → List D → Bool
 | [], [] => true
 | a :: as, b :: bs => keq1 a b && keqL as bs
 | _, _ => false
def keq : D → D → Bool
 | .int _ a, .int _ b => a == b
 | .bool a, .bool b => a == b
 | .str a, .str b => a == b
 | .agg a, .agg b => keqL a b
 | _, _ => false
def findM (k : D) : List (D × D × Nat) → Nat → Option (Nat × D)
 | [], _ => none
 | (k', v, _) :: es, i => if keq k k' then some (i, v) else findM k es (i + 1)
def putM (es : List (D × D × Nat)) (clock : Nat) (k v : D) : Blk :=
 match findM k es 0 with
 | some (i, _) => .map (es.modify i fun e => (k, v, e.2.2)) clock
 | none => .map (es ++ [(k, v, clock)]) (clock + 1)
def delM (es : List (D × D × Nat)) (clock : Nat) (k : D) : Blk :=
 match findM k es 0 with
 | some (i, _) => .map (es.eraseIdx i) clock
 | none => .map es clock
inductive CK where
 | fn
 | inv (name : String)
 | pan
inductive NilK where
 | sl | ptr | ifc
inductive OC where
 | mv
 | nck (P : Program)
 | pick
 | bin (op : BinOp)
 | eqB (neg : Bool)
 | eqA (neg : Bool) (ks : List EK)
 | eqN (neg : Bool) (k : NilK)
 | un (op : UnOp)
 | cvI (k : IntKind)
 | newb (zero : List D)
 | newT (e : TypeId) (zero : List D)
 | box
 | bld (zero : List D) (parts : List (Nat × Nat))
 | bsl (k : Nat)
 | mks (k bytes : Nat) (zero : List D)
 | ld (agg : Bool) (n : Nat)
 | st (n : Nat)
 | fld (off : Nat)
 | fv (agg : Bool) (off n : Nat)
 | ixaA (len k : Nat)
 | ixaS (k : Nat)
 | ixvS
 | slcS (lo hi : Bool)
 | slcL (k : Nat) (lo hi : Bool)
 | slc3 (k : Nat)
 | slcA (n k : Nat) (lo hi : Bool)
 | b2s
 | cpy (k : Nat)
 | rngS
 | nxtS
 | newM
 | mpu (kd : MK)
 | lkp (kd : MK) (ok : Bool) (zero : D)
 | mdl (kd : MK)
 | lenM
 | rngM
 | nxtM
 | ent
 | ext (i : Nat)
 | calls (k : CK)
 | lenS
 | lenL
 | minI
 | maxI
 | app (k bytes : Nat) (e : TypeId)
 | mkI (t : Nat)
 | mkF (f : Fn) (n : Nat)
 | bad
@[match_pattern] abbrev OC.call : OC := .calls .fn
@[match_pattern] abbrev OC.inv (name : String) : OC := .calls (.inv name)
@[match_pattern] abbrev OC.pan : OC := .calls .pan
def setL (cs : List D) (off : Nat) : List D → List D
 | [] => cs
 | d :: ds => setL (cs.set off d) (off + 1) ds
def fillL (cs : List D) : List (Nat × Nat) → List D → Option (List D)
 | [], [] => some cs
 | (off, n) :: ps, d :: ds =>
   if d.iV = true ∧ d.cells.length = n ∧ off + n ≤ cs.length then fillL (setL cs off d.cells) ps ds else none
 | _, _ => none
def eqD : EK → D → D → Option Bool
 | .int, .int k a, .int k' b => if k = k' then some (a == b) else none
 | .bool, .bool a, .bool b => some (a == b)
 | .str, .str a, .str b => some (a == b)
 | _, _, _ => none
def eqDs : List EK → List D → List D → Option Bool
 | [], [], [] => some true
 | e :: es, x :: xs, y :: ys =>
   match eqD e x y, eqDs es xs ys with
   | some a, some b => some (a && b)
   | _, _ => none
 | _, _, _ => none
def bitsV (op : BinOp) (k : IntKind) (x y : Int) : Int := Go.bits op k x y
def binWp (op : BinOp) (x y : D) (K : D → Prop) : Prop :=
 match op, x, y with
 | .add, .int k a, .int k' b => k = k' ∧ K (.int k (k.wrap (a + b)))
 | .sub, .int k a, .int k' b => k = k' ∧ K (.int k (k.wrap (a - b)))
 | .mul, .int k a, .int k' b => k = k' ∧ K (.int k (k.wrap (a * b)))
 | .quo, .int k a, .int k' b => k = k' ∧ b ≠ 0 ∧ K (.int k (k.wrap (a.tdiv b)))
 | .rem, .int k a, .int k' b => k = k' ∧ b ≠ 0 ∧ K (.int k (a.tmod b))
 | .and, .int k a, .int k' b => k = k' ∧ K (.int k (bitsV .and k a b))
 | .or, .int k a, .int k' b => k = k' ∧ K (.int k (bitsV .or k a b))
 | .xor, .int k a, .int k' b => k = k' ∧ K (.int k (bitsV .xor k a b))
 | .andNot, .int k a, .int k' b => k = k' ∧ K (.int k (bitsV .andNot k a b))
 | .shl, .int k a, .int _ b => 0 ≤ b ∧ K (.int k (k.wrap (a * 2 ^ (min b.toNat k.bits))))
 | .shr, .int k a, .int _ b => 0 ≤ b ∧ K (.int k (a.fdiv (2 ^ (min b.toNat k.bits))))
 | .eql, .int k a, .int k' b => k = k' ∧ K (.bool (a == b))
 | .neq, .int k a, .int k' b => k = k' ∧ K (.bool (a != b))
 | .lss, .int k a, .int k' b => k = k' ∧ K (.bool (decide (a < b)))
 | .leq, .int k a, .int k' b => k = k' ∧ K (.bool (decide (a ≤ b)))
 | .gtr, .int k a, .int k' b => k = k' ∧ K (.bool (decide (a > b)))
 | .geq, .int k a, .int k' b => k = k' ∧ K (.bool (decide (a ≥ b)))
 | .add, .str a, .str b => a.length + b.length ≤ 4611686018427387904 ∧ K (.str (a ++ b))
 | .eql, .str a, .str b => K (.bool (a == b))
 | .neq, .str a, .str b => K (.bool (!(a == b)))
 | .lss, .str a, .str b => K (.bool (Op.bytesLess a b))
 | .leq, .str a, .str b => K (.bool (Op.bytesLess a b || a == b))
 | .gtr, .str a, .str b => K (.bool (!(Op.bytesLess a b || a == b)))
 | .geq, .str a, .str b => K (.bool (!(Op.bytesLess a b)))
 | _, _, _ => False
def unWp (op : UnOp) (x : D) (K : D → Prop) : Prop :=
 match op, x with
 | .neg, .int k n => K (.int k (k.wrap (0 - n)))
 | .xor, .int k n => K (.int k (bitsV .xor k (if k.signed then -1 else k.max) n))
 | .not, .bool b => K (.bool (!b))
 | _, _ => False
def chunk (k : Nat) : Nat → List D → List D
 | 0, _ => []
 | n + 1, cs => (if k = 1 then cs.getD 0 .u0 else .agg (cs.take k)) :: chunk k n (cs.drop k)
def flatD : List D → List D
 | [] => []
 | d :: ds => d.cells ++ flatD ds
def zAh (k : Nat) : List D → Bool
 | [] => true
 | d :: ds => d.iV && d.cells.length == k && zAh k ds
def dlen : D → Int
 | .slice es _ => es.length
 | .sl _ _ _ len _ => len
 | .gs _ n => n
 | .lit (.slice none 0 0) => 0
 | _ => -1
def foldI (f : Int → Int → Int) : IntKind → Int → List D → Option Int
 | _, n, [] => some n
 | k, n, .int k' m :: r => if k = k' then foldI f k (f n m) r else none
 | _, _, _ => none
end GoV
end
section
set_option maxHeartbeats 1000000
namespace GoV
open Go
structure Tk where
 blk : Option Nat
 addr : Option Addr
 cap : Nat
 k : Nat
 len : Nat
def blks (l : List Tk) : List Nat := l.filterMap Tk.blk
def flat : List Value → List Value
 | [] => []
 | x :: xs => x.cells.toList ++ flat xs
def oneC (x : Value) : Prop := x.oneCell' = true
structure Gh where
 r : List Nat
 tk : List Tk
 I : Nat → Nat → Prop
def Gh.cl (g : Gh) : Gh := ⟨[], [], g.I⟩
def At (w : World) (I : Nat → Nat → Prop) (a : Addr) (ys : List Value) : Prop :=
 (ys ≠ [] → a.spot = none) ∧ ∀ j y, ys[j]? = some y → w.cell? ⟨a.block, a.off + j, none⟩ = some y ∧ I a.block (a.off + j) ∧ oneC y
def OwnOk (own : Own) (tk : List Tk) (len : Nat) (x : Value) (cap k : Nat) : Prop :=
 match own with
 | .no => True
 | .full => cap = len
 | .tok t => ∃ T, tk[t]? = some T ∧ k = T.k ∧ len ≤ T.len ∧ (len = T.len → x = .slice T.addr len T.cap)
mutual
def Rel (w : World) (g : Gh) : D → Value → Prop
 | .u0, _ => True
 | .skip, x => x = Go.undef
 | .int k n, x => x = .int k n
 | .bool b, x => x = .bool b
 | .str s, x => x = .string ⟨s.toArray⟩
 | .lit v, x => x = v ∧ v.oneCell' = true
 | .slice es own, x => ∃ a cap k xs, (x = .slice (some a) es.length cap ∨ (x = .slice none 0 0 ∧ es = [] ∧ cap = 0)) ∧ es.length ≤ cap ∧ RelL w g.cl es xs ∧
  (∀ y ∈ xs, y.cells.size = k) ∧ At w g.I a (flat xs) ∧ OwnOk own g.tk es.length x cap k
 | .agg cs, x => ∃ xs, x = .agg xs.toArray ∧ RelL w g cs xs ∧ ∀ y ∈ xs, oneC y
 | .tup vs, x => ∃ xs, x = .tuple xs.toArray ∧ RelL w g vs xs
 | .iface t d, x => ∃ y, x = .iface t y ∧ Rel w g d y
 | .fn f a c, x => ∃ xs ys, x = .func f xs.toArray ys.toArray ∧ RelL w g a xs ∧ RelL w g c ys
 | .ptr b off, x => ∃ n, g.r[b]? = some n ∧ x = .pointer (some ⟨n, off, none⟩)
 | .ip cs, x => ∃ a xs, x = .pointer (some a) ∧ RelL w g.cl cs xs ∧ At w g.I a xs
 | .sl b _ off len cap, x => ∃ n o, g.r[b]? = some n ∧ x = .slice (some ⟨n, o, none⟩) len cap ∧ (0 < cap → o = off)
 | .gs t n, x => ∃ a cap T, x = .slice a n cap ∧ (a = none → n = 0) ∧ g.tk[t]? = some T ∧ n ≤ T.len ∧ (n = T.len → a = T.addr ∧ cap = T.cap ∧ (0 < n → ∃ b, T.blk = some b))
 | .gp t n off, x => ∃ a T, x = .pointer (some a) ∧ g.tk[t]? = some T ∧ n ≤ T.len ∧ (n = T.len → ∃ b, T.blk = some b ∧ a = ⟨b, off, none⟩)
 | .mp b, x => ∃ n, g.r[b]? = some n ∧ x = .map (some n)
def RelL (w : World) (g : Gh) : List D → List Value → Prop
 | [], xs => xs = []
 | d :: ds, xs => ∃ y ys, xs = y :: ys ∧ Rel w g d y ∧ RelL w g ds ys
end
def BlkRel (w : World) (g : Gh) : Blk → Option Obj → Prop
 | .cells cs, o => ∃ xs e, o = some (.cells xs.toArray e (0, 0)) ∧ RelL w g cs xs ∧ ∀ y ∈ xs, oneC y
 | .gone, _ => True
 | .map es clock, o => ∃ ents : List MapEntry, o = some (.map ents.toArray clock) ∧ RelL w g (es.map (·.1)) (ents.map (·.key)) ∧ RelL w g (es.map (·.2.1)) (ents.map (·.val)) ∧
  es.map (·.2.2) = ents.map (·.born)
 | .miter m since seen st, o => ∃ n, g.r[m]? = some n ∧ o = some (.mapIter (some n) since seen.toArray st)
 | .raw x, o => o = some x
 | .tcells e cs, o => ∃ xs, o = some (.cells xs.toArray e (0, 0)) ∧ RelL w g cs xs ∧ ∀ y ∈ xs, oneC y
def Blk.csq : Blk → Option (List D)
 | .cells cs => some cs
 | .tcells _ cs => some cs
 | _ => none
def Blk.putc (cs : List D) : Blk → Blk
 | .tcells e _ => .tcells e cs
 | _ => .cells cs
def TvRel (w : World) (g : Gh) (T : Tk) : Tv → Prop
 | .per k len => k = T.k ∧ len = T.len ∧ ∀ b, T.blk = some b → ∀ o, g.I b o → o < T.len * T.k
 | .chg k cs => k = T.k ∧ cs.length = T.len * T.k ∧ (T.blk = none → T.len = 0 ∧ T.addr = none) ∧ ∀ b, T.blk = some b → (∀ o, ¬ g.I b o) ∧ ∃ xs e, w.heap[b]? = some (.cells xs e (0, 0)) ∧ RelL w g cs (xs.toList.take (T.len * T.k))
 | .byt e bs => T.k = 1 ∧ bs.length = T.len ∧ (T.blk = none → T.len = 0 ∧ T.addr = none) ∧ ∀ b, T.blk = some b → (∀ o, ¬ g.I b o) ∧ ∃ xs, w.heap[b]? = some (.cells xs e (0, 0)) ∧ xs.toList.take T.len = bs.map fun c => Value.int .u8 c.toNat
def TkOk (w : World) (g : Gh) (T : Tk) : Prop :=
 0 < T.k ∧ (T.blk = none → T.len = T.cap) ∧
  ∀ b, T.blk = some b → T.addr = some ⟨b, 0, none⟩ ∧ b ∉ g.r ∧ T.len ≤ T.cap ∧ ∃ xs e, w.heap[b]? = some (.cells xs e (0, 0)) ∧ xs.size = T.cap * T.k ∧ ∀ y ∈ xs.toList, oneC y
structure HeapRel (w : World) (g : Gh) (hp : Hp) : Prop where
 len : hp.H.length = g.r.length
 blk : ∀ (b : Nat) (B : Blk) (n : Nat), hp.H[b]? = some B → g.r[b]? = some n → BlkRel w g B w.heap[n]?
 lt : ∀ n ∈ g.r, n < w.heap.size
 nodup : g.r.Nodup
 lent : hp.tk.length = g.tk.length
 tv : ∀ (t : Nat) (V : Tv) (T : Tk), hp.tk[t]? = some V → g.tk[t]? = some T → TvRel w g T V
 tok : ∀ T ∈ g.tk, TkOk w g T
 tokd : (blks g.tk).Nodup
 imm : ∀ b o, g.I b o → b < w.heap.size ∧ ∀ i : Nat, g.r[i]? = some b → hp.H[i]? = some Blk.gone
structure Keeps (w w' : World) (r : List Nat) : Prop where
 os : w'.os = w.os
 tape : w'.tape = w.tape
 output : w'.output = w.output
 size : w.heap.size ≤ w'.heap.size
 block : ∀ b, b < w.heap.size → b ∉ r → w'.heap[b]? = w.heap[b]?
structure Evo (w : World) (g : Gh) (w' : World) (g' : Gh) : Prop where
 imm : ∀ b o, g.I b o → g'.I b o ∧ w'.cell? ⟨b, o, none⟩ = w.cell? ⟨b, o, none⟩
 ref : ∀ (b n : Nat), g.r[b]? = some n → g'.r[b]? = some n
 tok : ∀ (t : Nat) (T : Tk), g.tk[t]? = some T → ∃ T', g'.tk[t]? = some T' ∧ T'.k = T.k ∧ (T' = T ∨ T.len < T'.len)
def Gh.own (g : Gh) : List Nat := g.r ++ blks g.tk
structure Inv (w0 : World) (g0 : Gh) (hp : Hp) (w : World) (g : Gh) : Prop where
 heap : HeapRel w g hp
 evo : Evo w0 g0 w g
 keeps : Keeps w0 w g0.own
 newr : ∀ n ∈ g.r, n ∈ g0.r ∨ w0.heap.size ≤ n
 newt : ∀ n ∈ blks g.tk, n ∈ blks g0.tk ∨ w0.heap.size ≤ n
 i1 : ∀ b o, g.I b o → g0.I b o ∨ w0.heap.size ≤ b ∨ b ∈ blks g0.tk
def Post (w : World) (g : Gh) (R : D → Hp → Prop) (e : Ending) (w' : World) : Prop :=
 ∃ v d hp' g', e = .returned v ∧ R d hp' ∧ Inv w g hp' w' g' ∧ Rel w' g' d v
structure Mod where
 P : Program
 amb : World → List Nat → Prop
 up : ∀ w r w' r', amb w r → Keeps w w' r → (∀ n ∈ r', n ∈ r ∨ w.heap.size ≤ n) → amb w' r'
 base : World → Gh → Prop := fun _ _ => True
 pan : D → Hp → Prop := fun _ _ => False
def Mod.start (M : Mod) (w : World) (g : Gh) : Prop := M.amb w g.own ∧ M.base w g
def Spec (M : Mod) (f : FuncId) (args : List D) (hp : Hp) (R : D → Hp → Prop) : Prop :=
 ∀ w g xs, M.amb w g.own → HeapRel w g hp → RelL w g args xs → Calls M.P f xs.toArray w (Post w g R)
def zBu (M : Mod) (f : FuncId) : Prop := ∃ fn, M.P.funcs[f]? = some fn ∧ fn.body.isNone = false ∧ (fn.name == "runtime.NumGoroutine") = false
def Eff (M : Mod) (f : FuncId) (args : List D) (hp : Hp) (R : D → Hp → Prop) : Prop := zBu M f ∧ Spec M f args hp R
def Pur (M : Mod) (f : FuncId) (args : List D) (d : D) : Prop :=
 zBu M f ∧ Spec M f args ⟨[], []⟩ fun d' hp' => d' = d ∧ hp' = ⟨[], []⟩
def zA4 (hp : Hp) (k : Nat) : D → Option (List D)
 | .slice es _ => some es
 | .lit (.slice none 0 0) => some []
 | .str s => some (s.map fun b => .int .u8 b.toNat)
 | .sl b k' off len cap => if k' = k ∧ len ≤ cap then match hp.H[b]? with
   | some (.cells cs) => if off + len * k ≤ cs.length then some (chunk k len (cs.drop off)) else none
   | _ => none
   else none
 | .gs t n => match hp.tk[t]? with
   | some (.chg k' cs) => if k' = k ∧ cs.length = n * k then some (chunk k n cs) else none
   | _ => none
 | _ => none
def isStr : D → Bool
 | .str _ => true
 | _ => false
def bytesOf : List D → Option (List UInt8)
 | [] => some []
 | .int .u8 n :: r => match bytesOf r with
   | some s => some (UInt8.ofNat n.toNat :: s)
   | none => none
 | _ :: _ => none
def zDn : List D → Option (List UInt8)
 | [] => some []
 | .int .u8 n :: r => match zDn r with
   | some s => if 0 ≤ n ∧ n ≤ 255 then some (UInt8.ofNat n.toNat :: s) else none
   | none => none
 | _ :: _ => none
def zB3 (n bytes : Nat) : Prop := n * bytes ≤ 140737488355328 ∧ n ≤ 140737488355328
def eqnWp (neg : Bool) : D → (D → Prop) → Prop
 | .lit (.slice none 0 0), K => K (.bool (!neg))
 | .slice [] _, K => ∀ b, K (.bool b)
 | .slice (_ :: _) _, K => K (.bool neg)
 | .sl _ _ _ _ _, K => K (.bool neg)
 | _, _ => False
def eqpWp (neg : Bool) : D → (D → Prop) → Prop
 | .lit (.pointer none), K => K (.bool (!neg))
 | .ptr _ _, K => K (.bool neg)
 | .ip _, K => K (.bool neg)
 | .gp _ _ _, K => K (.bool neg)
 | _, _ => False
def eqiWp (neg : Bool) : D → (D → Prop) → Prop
 | .lit .nilIface, K => K (.bool (!neg))
 | .iface _ _, K => K (.bool neg)
 | _, _ => False
def eqkWp (neg : Bool) (k : NilK) (x y : D) (K : D → Prop) : Prop :=
 match k with
 | .sl => y = .lit (.slice none 0 0) ∧ eqnWp neg x K
 | .ptr => y = .lit (.pointer none) ∧ eqpWp neg x K
 | .ifc => y = .lit .nilIface ∧ eqiWp neg x K
def appWp (k bytes : Nat) (e : TypeId) (s : D) (es : List D) (hp : Hp) (K : D → Hp → Prop) : Prop :=
 zAh k es = true ∧
 match s with
 | .lit (.slice none 0 0) => zB3 es.length bytes ∧
  ((D.cL es = true ∧ (K (.slice (D.erL es) .no) hp ∨ K (.slice (D.erL es) (.tok hp.tk.length)) { hp with tk := hp.tk ++ [.per k es.length] })) ∨
    K (.gs hp.tk.length es.length) { hp with tk := hp.tk ++ [.chg k (flatD es)] })
 | .slice xs .full => zB3 (xs.length + es.length) bytes ∧ ((D.cL es = true ∧ zAh k xs = true ∧ 0 < k ∧
  (K (.slice (xs ++ D.erL es) .no) hp ∨ K (.slice (xs ++ D.erL es) (.tok hp.tk.length)) { hp with tk := hp.tk ++ [.per k (xs.length + es.length)] })) ∨
   (xs = [] ∧ 0 < es.length ∧ ∃ t, hp.tk[t]? = some (.chg k []) ∧ K (.gs t es.length) { hp with tk := hp.tk.set t (.chg k (flatD es)) }))
 | .slice xs (.tok t) => zB3 (xs.length + es.length) bytes ∧ D.cL es = true ∧ hp.tk[t]? = some (.per k xs.length) ∧
  K (.slice (xs ++ D.erL es) (.tok t)) { hp with tk := hp.tk.set t (.per k (xs.length + es.length)) }
 | .gs t n => zB3 (n + es.length) bytes ∧ ((∃ cs, hp.tk[t]? = some (.chg k cs) ∧ cs.length = n * k ∧
  K (.gs t (n + es.length)) { hp with tk := hp.tk.set t (.chg k (cs ++ flatD es)) }) ∨
  ∃ bs s', k = 1 ∧ hp.tk[t]? = some (.byt e bs) ∧ bs.length = n ∧ zDn es = some s' ∧ K (.gs t (n + es.length)) { hp with tk := hp.tk.set t (.byt e (bs ++ s')) })
 | _ => False
def zeros (zero : List D) : Nat → List D
 | 0 => []
 | n + 1 => zero ++ zeros zero n
def cpyWp (k : Nat) (ds : List D) (hp : Hp) (K : D → Hp → Prop) : Prop :=
 match ds with
 | [.sl b k' off len cap, x] => k' = k ∧ ∃ cs es, hp.H[b]? = some (.cells cs) ∧ off + len * k ≤ cs.length ∧ len ≤ cap ∧ zA4 hp k x = some es ∧ zAh k es = true ∧
  K (.int .i64 (min es.length len : Nat)) { hp with H := hp.H.set b (.cells (setL cs off (flatD (es.take len)))) }
 | _ => False
def mmWp (mx : Bool) (ds : List D) (K : D → Prop) : Prop :=
 match ds with
 | .int k n :: r => ∃ m, foldI (if mx then fun a b => if b > a then b else a else fun a b => if b < a then b else a) k n r = some m ∧ K (.int k m)
 | [.str a, .str b] => K (.str (if mx then (if Op.bytesLess a b then b else a) else if Op.bytesLess a b || a == b then a else b))
 | _ => False
def zEt (P : Program) (t : TypeId) (name : String) : Option FuncId :=
 match P.info? t with
 | some i =>
   match i.methods.find? (·.name == name) with
   | some m =>
     match m.func, m.path.toList, P.underlying t with
     | some (f, false), [], some (.struct _) => some f
     | _, _, _ => none
   | none => none
 | none => none
def nckOk (o : Option FuncId) : Prop := o.isSome = true
def nckFn (P : Program) (f : Fn) (a c : List D) : Prop := ∃ name t d, f = .method name ∧ a = [.iface t d] ∧ c = [] ∧ nckOk (zEt P t name)
theorem nckFn_iff {P : Program} {name : String} {t : TypeId} {d : D} : nckFn P (.method name) [.iface t d] [] = nckOk (zEt P t name) := by
 refine propext ⟨?_, fun h => ⟨name, t, d, rfl, rfl, rfl, h⟩⟩
 rintro ⟨n', t', d', h1, h2, _, h4⟩
 cases h1; cases h2; exact h4
def nckIs (P : Program) (x : D) : Prop :=
 match x with
 | .ptr _ _ => True
 | .ip _ => True
 | .gp _ _ _ => True
 | .fn f a c => nckFn P f a c
 | _ => False
theorem nckOk_some {f : FuncId} : nckOk (some f) = True := by simp [nckOk]
abbrev nilIt : Blk := .raw (.mapIter none 0 #[] 0)
def zEu (x : D) (hp : Hp) (K : D → Hp → Prop) : Prop :=
 match x with
 | .lit (.map none) => K (.int .i64 0) hp
 | .mp b => ∃ es clock, hp.H[b]? = some (.map es clock) ∧ K (.int .i64 es.length) hp
 | _ => False
def zEp (x : D) (hp : Hp) (K : D → Hp → Prop) : Prop :=
 match x with
 | .lit (.map none) => K (.ptr hp.H.length 0) { hp with H := hp.H ++ [nilIt] }
 | .mp b => ∃ es clock, hp.H[b]? = some (.map es clock) ∧ K (.ptr hp.H.length 0) { hp with H := hp.H ++ [.miter b clock [] clock] }
 | _ => False
def opWp (oc : OC) (ds : List D) (hp : Hp) (K : D → Hp → Prop) : Prop :=
 match oc, ds with
 | .mv, [x] => K x hp
 | .nck P, [x] => nckIs P x ∧ K x hp
 | .pick, [.bool t, a, b] => (t = true → K a hp) ∧ (t = false → K b hp)
 | .bin op, [x, y] => binWp op x y fun d => K d hp
 | .eqB neg, [.bool a, .bool b] => K (.bool (if neg then !(a == b) else a == b)) hp
 | .eqA neg ks, [.agg xs, .agg ys] => ∃ b, eqDs ks xs ys = some b ∧ K (.bool (if neg then !b else b)) hp
 | .eqN neg k, [x, y] => eqkWp neg k x y fun d => K d hp
 | .un op, [x] => unWp op x fun d => K d hp
 | .cvI k, [.int _ n] => K (.int k (k.wrap n)) hp
 | .newb zero, [] => K (.ptr hp.H.length 0) { hp with H := hp.H ++ [.cells zero] }
 | .newT e zero, [] => K (.ptr hp.H.length 0) { hp with H := hp.H ++ [.tcells e zero] }
 | .box, [x] => x.iV = true ∧ K (.ptr hp.H.length 0) { hp with H := hp.H ++ [.cells x.cells] }
 | .bld zero parts, xs => ∃ cs, fillL zero parts xs = some cs ∧ K (.agg cs) hp
 | .bsl k, xs => zAh k xs = true ∧ xs.length * k ≤ 16777216 ∧
  ((D.cL xs = true ∧ K (.slice (D.erL xs) .full) hp) ∨ K (.sl hp.H.length k 0 xs.length xs.length) { hp with H := hp.H ++ [.cells (flatD xs)] })
 | .mks k bytes zero, [.int _ l, .int _ c] => 0 ≤ l ∧ l ≤ c ∧ zB3 c.toNat bytes ∧
  (K (.sl hp.H.length k 0 l.toNat c.toNat) { hp with H := hp.H ++ [.cells (zeros zero c.toNat)] } ∨
   (0 < k ∧ l = 0 ∧ (K (.slice [] (.tok hp.tk.length)) { hp with tk := hp.tk ++ [.per k 0] } ∨ K (.gs hp.tk.length 0) { hp with tk := hp.tk ++ [.chg k []] })))
 | .ld ag n, [.ptr b off] => ∃ B cs, hp.H[b]? = some B ∧ B.csq = some cs ∧ off + n ≤ cs.length ∧ K (if ag then .agg ((cs.drop off).take n) else cs.getD off .u0) hp
 | .ld ag n, [.gp t m off] => ∃ k cs, hp.tk[t]? = some (.chg k cs) ∧ cs.length = m * k ∧ off + n ≤ cs.length ∧ K (if ag then .agg ((cs.drop off).take n) else cs.getD off .u0) hp
 | .ld ag n, [.ip cs] => 0 < n ∧ n ≤ cs.length ∧ K (if ag then .agg (cs.take n) else cs.getD 0 .u0) hp
 | .st n, [.ptr b off, v] => ∃ B cs, hp.H[b]? = some B ∧ B.csq = some cs ∧ v.iV = true ∧ v.cells.length = n ∧ off + n ≤ cs.length ∧
  K .skip { hp with H := hp.H.set b (B.putc (setL cs off v.cells)) }
 | .st n, [.gp t m off, v] => ∃ k cs, hp.tk[t]? = some (.chg k cs) ∧ cs.length = m * k ∧ v.iV = true ∧ v.cells.length = n ∧ off + n ≤ cs.length ∧
  K .skip { hp with tk := hp.tk.set t (.chg k (setL cs off v.cells)) }
 | .fld off, [.ptr b o] => K (.ptr b (o + off)) hp
 | .fld off, [.ip cs] => K (.ip (cs.drop off)) hp
 | .fld off, [.gp t m o] => K (.gp t m (o + off)) hp
 | .fv ag off n, [.agg cs] => off + n ≤ cs.length ∧ K (if ag then .agg ((cs.drop off).take n) else cs.getD off .u0) hp
 | .ixaA len k, [.ptr b o, .int _ i] => 0 ≤ i ∧ i < len ∧ K (.ptr b (o + i.toNat * k)) hp
 | .ixaA len k, [.ip cs, .int _ i] => 0 ≤ i ∧ i < len ∧ K (.ip (cs.drop (i.toNat * k))) hp
 | .ixaA len k, [.gp t m o, .int _ i] => 0 ≤ i ∧ i < len ∧ K (.gp t m (o + i.toNat * k)) hp
 | .ixaS k, [.slice es _, .int _ i] => 0 ≤ i ∧ i < es.length ∧ (es.getD i.toNat .u0).iV = true ∧ (es.getD i.toNat .u0).cells.length = k ∧ K (.ip (es.getD i.toNat .u0).cells) hp
 | .ixaS k, [.sl b k' off len cap, .int _ i] => 0 ≤ i ∧ i < len ∧ len ≤ cap ∧ k' = k ∧ K (.ptr b (off + i.toNat * k)) hp
 | .ixaS k, [.gs t n, .int _ i] => 0 ≤ i ∧ i < n ∧ K (.gp t n (i.toNat * k)) hp
 | .ixvS, [.str s, .int _ i] => 0 ≤ i ∧ i < s.length ∧ K (.int .u8 (s.getD i.toNat 0).toNat) hp
 | .slcS false false, [.str s] => K (.str s) hp
 | .slcS true false, [.str s, .int _ l] => 0 ≤ l ∧ l ≤ s.length ∧ K (.str (s.drop l.toNat)) hp
 | .slcS false true, [.str s, .int _ h] => 0 ≤ h ∧ h ≤ s.length ∧ K (.str (s.take h.toNat)) hp
 | .slcS true true, [.str s, .int _ l, .int _ h] => 0 ≤ l ∧ l ≤ h ∧ h ≤ s.length ∧ K (.str ((s.take h.toNat).drop l.toNat)) hp
 | .slcL k lo hi, x :: is => ∃ l h : Int, (match lo, hi, is with
  | false, false, [] => l = 0 ∧ h = dlen x
  | true, false, [.int _ a] => l = a ∧ h = dlen x
  | false, true, [.int _ b] => l = 0 ∧ h = b
  | true, true, [.int _ a, .int _ b] => l = a ∧ h = b
  | _, _, _ => False) ∧ 0 ≤ l ∧ l ≤ h ∧ h ≤ dlen x ∧ (match x with
  | .slice es _ => zAh k es = true ∧ K (.slice ((es.take h.toNat).drop l.toNat) .no) hp
  | .lit (.slice none 0 0) => K (.lit (.slice none 0 0)) hp
  | .sl b k' off len cap => k' = k ∧ len ≤ cap ∧ K (.sl b k (off + l.toNat * k) (h.toNat - l.toNat) (cap - l.toNat)) hp
  | _ => False)
 | .slc3 k, x :: is => ∃ l h m : Int, (match is with
  | [.int _ a, .int _ b, .int _ c] => l = a ∧ h = b ∧ m = c
  | _ => False) ∧ 0 ≤ l ∧ l ≤ h ∧ h ≤ m ∧ m ≤ dlen x ∧ (match x with
  | .slice es _ => zAh k es = true ∧ K (.slice ((es.take h.toNat).drop l.toNat) .no) hp
  | _ => False)
 | .slcA n k lo hi, .ptr b off :: is => ∃ l h : Int, (match lo, hi, is with
  | false, false, [] => l = 0 ∧ h = n
  | true, false, [.int _ a] => l = a ∧ h = n
  | false, true, [.int _ b] => l = 0 ∧ h = b
  | true, true, [.int _ a, .int _ b] => l = a ∧ h = b
  | _, _, _ => False) ∧ 0 ≤ l ∧ l ≤ h ∧ h ≤ n ∧ K (.sl b k (off + l.toNat * k) (h.toNat - l.toNat) (n - l.toNat)) hp
 | .b2s, [x] => isStr x = false ∧ ∃ es s, zA4 hp 1 x = some es ∧ bytesOf es = some s ∧ K (.str s) hp
 | .cpy k, xs => cpyWp k xs hp K
 | .rngS, [.str s] => K (.ptr hp.H.length 0) { hp with H := hp.H ++ [.siter s 0] }
 | .nxtS, [.ptr b 0] => ∃ s p, hp.H[b]? = some (.siter s p) ∧
  (p < s.length → K (.tup [.bool true, .int .i64 p, .int .i32 (Utf8.decode ⟨s.toArray⟩ p).1]) { hp with H := hp.H.set b (.siter s (p + (Utf8.decode ⟨s.toArray⟩ p).2)) }) ∧
  (s.length ≤ p → K (.tup [.bool false]) hp)
 | .newM, _ => K (.mp hp.H.length) { hp with H := hp.H ++ [.map [] 0] }
 | .mpu kd, [.mp b, k, v] => ∃ es clock, hp.H[b]? = some (.map es clock) ∧ keyOk kd k = true ∧ (es.all fun e => keyOk kd e.1) = true ∧
  K .skip { hp with H := hp.H.set b (putM es clock k v) }
 | .lkp kd ok zero, [.mp b, k] => ∃ es clock, hp.H[b]? = some (.map es clock) ∧ keyOk kd k = true ∧ (es.all fun e => keyOk kd e.1) = true ∧
  (∀ i v, findM k es 0 = some (i, v) → K (if ok then .tup [v, .bool true] else v) hp) ∧ (findM k es 0 = none → K (if ok then .tup [zero, .bool false] else zero) hp)
 | .mdl kd, [.mp b, k] => ∃ es clock, hp.H[b]? = some (.map es clock) ∧ keyOk kd k = true ∧ (es.all fun e => keyOk kd e.1) = true ∧
  K (.tup []) { hp with H := hp.H.set b (delM es clock k) }
 | .lenM, [x] => zEu x hp K
 | .rngM, [x] => zEp x hp K
 | .nxtM, [.ptr b 0] => (hp.H[b]? = some nilIt ∧ K (.tup [.bool false]) hp) ∨ ∃ m since seen st es clock, hp.H[b]? = some (.miter m since seen st) ∧ hp.H[m]? = some (.map es clock) ∧ (∀ e ∈ es, e.2.2 < since) ∧ since ≤ st ∧
  (∀ e ∈ es, e.2.2 ∉ seen → K (.tup [.bool true, e.1, e.2.1]) { hp with H := hp.H.set b (.miter m since (seen ++ [e.2.2]) clock) }) ∧
  ((∀ e ∈ es, e.2.2 ∈ seen) → K (.tup [.bool false]) hp)
 | .ent, [.ptr b 0] => ∃ m since seen es clock n k v, hp.H[b]? = some (.miter m since (seen ++ [n]) clock) ∧ hp.H[m]? = some (.map es clock) ∧ (es.map (·.2.2)).Nodup ∧ (k, v, n) ∈ es ∧
  K (.tup [k, v]) hp
 | .ext i, [.tup vs] => i < vs.length ∧ K (vs.getD i .u0) hp
 | .lenS, [.str s] => K (.int .i64 s.length) hp
 | .lenL, [.slice es _] => K (.int .i64 es.length) hp
 | .lenL, [.lit (.slice none 0 0)] => K (.int .i64 0) hp
 | .lenL, [.sl _ _ _ len _] => K (.int .i64 len) hp
 | .lenL, [.gs _ n] => K (.int .i64 n) hp
 | .minI, ds => mmWp false ds fun d => K d hp
 | .maxI, ds => mmWp true ds fun d => K d hp
 | .app k bytes e, [s, x] => ∃ es, zA4 hp k x = some es ∧ appWp k bytes e s es hp K
 | .mkI t, [x] => K (.iface t x) hp
 | .mkF f n, xs => K (.fn f (xs.take n) (xs.drop n)) hp
 | _, _ => False
structure RO where
 dst : Dst
 oc : OC
 args : List Opd
 guard : Option (Opd × Bool)
def isPan : OC → Bool
 | .pan => true
 | _ => false
def zAb : OC → Bool
 | .call => true
 | .inv _ => true
 | _ => false
def zEj : OC → Bool
 | .mv | .nck _ | .pick | .bin _ | .eqB _ | .eqA _ _ | .un _ | .cvI _ | .bld _ _ | .fld _ | .fv _ _ _ | .ixaA _ _ | .ixaS _ | .ixvS | .slcS _ _ | .slcL _ _ _ | .slc3 _ | .slcA _ _ _ _ | .ext _ | .lenS | .lenL | .minI | .maxI | .mkI _ | .mkF _ _ => true
 | _ => false
def isEff : OC → Bool
 | .newb _ | .newT _ _ | .box | .st _ | .app _ _ _ | .bsl _ | .mks _ _ _ | .cpy _ | .rngS | .nxtS | .newM | .mpu _ | .mdl _ | .rngM | .nxtM | .call => true
 | _ => false
end GoV
end
section
namespace GoV
open Go
theorem Evo.cl {w g w' g'} (h : Evo w g w' g') : Evo w g.cl w' g'.cl :=
 ⟨h.imm, fun _ _ h => by simp [Gh.cl] at h, fun _ _ h => by simp [Gh.cl] at h⟩
theorem Evo.refl (w g) : Evo w g w g :=
 ⟨fun _ _ h => ⟨h, rfl⟩, fun _ _ h => h, fun _ T h => ⟨T, h, rfl, .inl rfl⟩⟩
theorem Evo.trans {w g w1 g1 w2 g2} (h : Evo w g w1 g1) (k : Evo w1 g1 w2 g2) : Evo w g w2 g2 := by
 refine ⟨fun b o hi => ?_, fun b n hb => k.ref b n (h.ref b n hb), fun t T ht => ?_⟩
 ·obtain ⟨i1, c1⟩ := h.imm b o hi
  obtain ⟨i2, c2⟩ := k.imm b o i1
  exact ⟨i2, c2.trans c1⟩
 ·obtain ⟨T1, e1, k1, o1⟩ := h.tok t T ht
  obtain ⟨T2, e2, k2, o2⟩ := k.tok t T1 e1
  refine ⟨T2, e2, k2.trans k1, ?_⟩
  rcases o1 with rfl | o1 <;> rcases o2 with rfl | o2
  ·exact .inl rfl
  ·exact .inr o2
  ·exact .inr o1
  ·exact .inr (Nat.lt_trans o1 o2)
theorem At.evo {w I w' I' a ys} (h : At w I a ys) (he : ∀ b o, I b o → I' b o ∧ w'.cell? ⟨b, o, none⟩ = w.cell? ⟨b, o, none⟩) : At w' I' a ys := by
 refine ⟨h.1, fun j y hj => ?_⟩
 obtain ⟨c, i, o⟩ := h.2 j y hj
 obtain ⟨i', c'⟩ := he _ _ i
 exact ⟨c'.trans c, i', o⟩
theorem OwnOk.evo {own tk tk' len x cap k} (h : OwnOk own tk len x cap k)
 (ht : ∀ (t : Nat) (T : Tk), tk[t]? = some T → ∃ T', tk'[t]? = some T' ∧ T'.k = T.k ∧ (T' = T ∨ T.len < T'.len)) : OwnOk own tk' len x cap k := by
 cases own with
 | no => trivial
 | full => exact h
 | tok t =>
   obtain ⟨T, h1, h2, h3, h4⟩ := h
   obtain ⟨T', g1, g2, g3⟩ := ht t T h1
   refine ⟨T', g1, h2.trans g2.symm, ?_, fun hl => ?_⟩
   ·rcases g3 with rfl | g3
    ·exact h3
    ·omega
   ·rcases g3 with rfl | g3
    ·exact h4 hl
    ·omega
mutual
theorem Rel.evo {w w'} : ∀ (d : D) {g g' : Gh} {x : Value}, Evo w g w' g' → Rel w g d x → Rel w' g' d x
 | .u0, _, _, _, _, _ => by simp [Rel]
 | .skip, _, _, _, _, h => by simpa [Rel] using h
 | .int _ _, _, _, _, _, h => by simpa [Rel] using h
 | .bool _, _, _, _, _, h => by simpa [Rel] using h
 | .str _, _, _, _, _, h => by simpa [Rel] using h
 | .lit _, _, _, _, _, h => by simpa [Rel] using h
 | .slice es own, _, _, _, he, h => by
   simp only [Rel] at h ⊢
   obtain ⟨a, cap, k, xs, h1, h2, h3, h4, h5, h6⟩ := h
   exact ⟨a, cap, k, xs, h1, h2, RelL.evo es he.cl h3, h4, h5.evo he.imm, h6.evo he.tok⟩
 | .agg cs, _, _, _, he, h => by
   simp only [Rel] at h ⊢
   obtain ⟨xs, h1, h2, h3⟩ := h
   exact ⟨xs, h1, RelL.evo cs he h2, h3⟩
 | .tup vs, _, _, _, he, h => by
   simp only [Rel] at h ⊢
   obtain ⟨xs, h1, h2⟩ := h
   exact ⟨xs, h1, RelL.evo vs he h2⟩
 | .iface t d, _, _, _, he, h => by
   simp only [Rel] at h ⊢
   obtain ⟨y, h1, h2⟩ := h
   exact ⟨y, h1, Rel.evo d he h2⟩
 | .fn f a c, _, _, _, he, h => by
   simp only [Rel] at h ⊢
   obtain ⟨xs, ys, h1, h2, h3⟩ := h
   exact ⟨xs, ys, h1, RelL.evo a he h2, RelL.evo c he h3⟩
 | .ptr b off, _, _, _, he, h => by
   simp only [Rel] at h ⊢
   obtain ⟨n, h1, h2⟩ := h
   exact ⟨n, he.ref b n h1, h2⟩
 | .ip cs, _, _, _, he, h => by
   simp only [Rel] at h ⊢
   obtain ⟨a, xs, h1, h2, h3⟩ := h
   exact ⟨a, xs, h1, RelL.evo cs he.cl h2, h3.evo he.imm⟩
 | .sl b k off len cap, _, _, _, he, h => by
   simp only [Rel] at h ⊢
   obtain ⟨n, o, h1, h2, h3⟩ := h
   exact ⟨n, o, he.ref b n h1, h2, h3⟩
 | .gs t n, _, _, _, he, h => by
   simp only [Rel] at h ⊢
   obtain ⟨a, cap, T, h1, h0, h2, h3, h4⟩ := h
   obtain ⟨T', g1, g2, g3⟩ := he.tok t T h2
   refine ⟨a, cap, T', h1, h0, g1, ?_, fun e => ?_⟩
   ·rcases g3 with rfl | g3
    ·exact h3
    ·omega
   ·rcases g3 with rfl | g3
    ·exact h4 e
    ·omega
 | .gp t n off, _, _, _, he, h => by
   simp only [Rel] at h ⊢
   obtain ⟨a, T, h1, h2, h3, h4⟩ := h
   obtain ⟨T', g1, g2, g3⟩ := he.tok t T h2
   refine ⟨a, T', h1, g1, ?_, fun e => ?_⟩
   ·rcases g3 with rfl | g3
    ·exact h3
    ·omega
   ·rcases g3 with rfl | g3
    ·exact h4 e
    ·omega
 | .mp b, _, _, _, he, h => by
   simp only [Rel] at h ⊢
   obtain ⟨n, h1, h2⟩ := h
   exact ⟨n, he.ref b n h1, h2⟩
theorem RelL.evo {w w'} : ∀ (ds : List D) {g g' : Gh} {xs : List Value}, Evo w g w' g' → RelL w g ds xs → RelL w' g' ds xs
 | [], _, _, _, _, h => by simpa [RelL] using h
 | d :: ds, _, _, _, he, h => by
   simp only [RelL] at h ⊢
   obtain ⟨y, ys, h1, h2, h3⟩ := h
   exact ⟨y, ys, h1, Rel.evo d he h2, RelL.evo ds he h3⟩
end
theorem Evo.same {w : World} {g g' : Gh} (hI : g'.I = g.I) (hr : ∀ (b n : Nat), g.r[b]? = some n → g'.r[b]? = some n) (ht : ∀ (t : Nat) (T : Tk), g.tk[t]? = some T → g'.tk[t]? = some T) : Evo w g w g' :=
 ⟨fun b o h => ⟨by rw [hI]; exact h, rfl⟩, hr, fun t T h => ⟨T, ht t T h, rfl, .inl rfl⟩⟩
theorem Rel.any {w g d x} (h : Rel w g.cl d x) : Rel w g d x :=
 Rel.evo d (g := g.cl) (g' := g) (Evo.same rfl (by simp [Gh.cl]) (by simp [Gh.cl])) h
theorem RelL.any {w g ds xs} (h : RelL w g.cl ds xs) : RelL w g ds xs :=
 RelL.evo ds (g := g.cl) (g' := g) (Evo.same rfl (by simp [Gh.cl]) (by simp [Gh.cl])) h
structure Ren (β τ : Nat → Option Nat) (g g' : Gh) : Prop where
 I : g'.I = g.I
 r : ∀ b b' n : Nat, β b = some b' → g.r[b]? = some n → g'.r[b']? = some n
 t : ∀ (t t' : Nat) (T : Tk), τ t = some t' → g.tk[t]? = some T → g'.tk[t']? = some T
mutual
theorem Rel.rn {w β τ} : ∀ (d : D) {g g' : Gh} {x : Value}, Ren β τ g g' → Rel w g d x → Rel w g' (d.rn β τ) x
 | .u0, _, _, _, _, _ => by simp [Rel, D.rn]
 | .skip, _, _, _, _, h => by simpa [Rel, D.rn] using h
 | .int _ _, _, _, _, _, h => by simpa [Rel, D.rn] using h
 | .bool _, _, _, _, _, h => by simpa [Rel, D.rn] using h
 | .str _, _, _, _, _, h => by simpa [Rel, D.rn] using h
 | .lit _, _, _, _, _, h => by simpa [Rel, D.rn] using h
 | .slice es own, g, g', x, he, h => by
   simp only [Rel, D.rn] at h ⊢
   obtain ⟨a, cap, k, xs, h1, h2, h3, h4, h5, h6⟩ := h
   have hc : g'.cl = g.cl := by simp [Gh.cl, he.I]
   refine ⟨a, cap, k, xs, h1, h2, by rw [hc]; exact h3, h4, by rw [he.I]; exact h5, ?_⟩
   cases own with
   | no => trivial
   | full => exact h6
   | tok t =>
     simp only [Own.rn]
     cases ht : τ t with
     | none => trivial
     | some u =>
       obtain ⟨T, k1, k2⟩ := h6
       exact ⟨T, he.t t u T ht k1, k2⟩
 | .agg cs, _, _, _, he, h => by
   simp only [Rel, D.rn] at h ⊢
   obtain ⟨xs, h1, h2, h3⟩ := h
   exact ⟨xs, h1, RelL.rn cs he h2, h3⟩
 | .tup vs, _, _, _, he, h => by
   simp only [Rel, D.rn] at h ⊢
   obtain ⟨xs, h1, h2⟩ := h
   exact ⟨xs, h1, RelL.rn vs he h2⟩
 | .iface t d, _, _, _, he, h => by
   simp only [Rel, D.rn] at h ⊢
   obtain ⟨y, h1, h2⟩ := h
   exact ⟨y, h1, Rel.rn d he h2⟩
 | .fn f a c, _, _, _, he, h => by
   simp only [Rel, D.rn] at h ⊢
   obtain ⟨xs, ys, h1, h2, h3⟩ := h
   exact ⟨xs, ys, h1, RelL.rn a he h2, RelL.rn c he h3⟩
 | .ptr b off, _, _, _, he, h => by
   simp only [Rel, D.rn] at h ⊢
   obtain ⟨n, h1, h2⟩ := h
   cases hb : β b with
   | none => simp [Rel]
   | some c => simp only [Rel]; exact ⟨n, he.r b c n hb h1, h2⟩
 | .ip cs, g, g', x, he, h => by
   simp only [Rel, D.rn] at h ⊢
   have hc : g'.cl = g.cl := by simp [Gh.cl, he.I]
   rw [hc, he.I]; exact h
 | .sl b k off len cap, _, _, _, he, h => by
   simp only [Rel, D.rn] at h ⊢
   obtain ⟨n, o, h1, h2, h3⟩ := h
   cases hb : β b with
   | none => simp [Rel]
   | some c => simp only [Rel]; exact ⟨n, o, he.r b c n hb h1, h2, h3⟩
 | .gs t n, _, _, _, he, h => by
   simp only [Rel, D.rn] at h ⊢
   obtain ⟨a, cap, T, h1, h0, h2, h3⟩ := h
   cases ht : τ t with
   | none => simp [Rel]
   | some u => simp only [Rel]; exact ⟨a, cap, T, h1, h0, he.t t u T ht h2, h3⟩
 | .gp t n off, _, _, _, he, h => by
   simp only [Rel, D.rn] at h ⊢
   obtain ⟨a, T, h1, h2, h3⟩ := h
   cases ht : τ t with
   | none => simp [Rel]
   | some u => simp only [Rel]; exact ⟨a, T, h1, he.t t u T ht h2, h3⟩
 | .mp b, _, _, _, he, h => by
   simp only [Rel, D.rn] at h ⊢
   obtain ⟨n, h1, h2⟩ := h
   cases hb : β b with
   | none => simp [Rel]
   | some c => simp only [Rel]; exact ⟨n, he.r b c n hb h1, h2⟩
theorem RelL.rn {w β τ} : ∀ (ds : List D) {g g' : Gh} {xs : List Value}, Ren β τ g g' → RelL w g ds xs → RelL w g' (D.rnL β τ ds) xs
 | [], _, _, _, _, h => by simpa [RelL, D.rnL] using h
 | d :: ds, _, _, _, he, h => by
   simp only [RelL, D.rnL] at h ⊢
   obtain ⟨y, ys, h1, h2, h3⟩ := h
   exact ⟨y, ys, h1, Rel.rn d he h2, RelL.rn ds he h3⟩
end
mutual
theorem Rel.closed {w} : ∀ (d : D) {g : Gh} {x : Value}, d.closed = true → Rel w g d x → Rel w g.cl d.er x
 | .u0, _, _, _, _ => by simp [Rel, D.er]
 | .skip, _, _, _, h => by simpa [Rel, D.er] using h
 | .int _ _, _, _, _, h => by simpa [Rel, D.er] using h
 | .bool _, _, _, _, h => by simpa [Rel, D.er] using h
 | .str _, _, _, _, h => by simpa [Rel, D.er] using h
 | .lit _, _, _, _, h => by simpa [Rel, D.er] using h
 | .slice es own, _, _, _, h => by
   simp only [Rel, D.er] at h ⊢
   obtain ⟨a, cap, k, xs, h1, h2, h3, h4, h5, h6⟩ := h
   exact ⟨a, cap, k, xs, h1, h2, h3, h4, h5, trivial⟩
 | .agg cs, _, _, hc, h => by
   simp only [Rel, D.er, D.closed] at h hc ⊢
   obtain ⟨xs, h1, h2, h3⟩ := h
   exact ⟨xs, h1, RelL.closed cs hc h2, h3⟩
 | .tup vs, _, _, hc, h => by
   simp only [Rel, D.er, D.closed] at h hc ⊢
   obtain ⟨xs, h1, h2⟩ := h
   exact ⟨xs, h1, RelL.closed vs hc h2⟩
 | .iface t d, _, _, hc, h => by
   simp only [Rel, D.er, D.closed] at h hc ⊢
   obtain ⟨y, h1, h2⟩ := h
   exact ⟨y, h1, Rel.closed d hc h2⟩
 | .fn f a c, _, _, hc, h => by
   simp only [Rel, D.er, D.closed, Bool.and_eq_true] at h hc ⊢
   obtain ⟨xs, ys, h1, h2, h3⟩ := h
   exact ⟨xs, ys, h1, RelL.closed a hc.1 h2, RelL.closed c hc.2 h3⟩
 | .ptr b off, _, _, hc, h => by simp [D.closed] at hc
 | .ip cs, _, _, _, h => by simpa [Rel, D.er, Gh.cl] using h
 | .sl b k off len cap, _, _, hc, h => by simp [D.closed] at hc
 | .gs t n, _, _, hc, h => by simp [D.closed] at hc
 | .gp t n off, _, _, hc, h => by simp [D.closed] at hc
 | .mp b, _, _, hc, h => by simp [D.closed] at hc
theorem RelL.closed {w} : ∀ (ds : List D) {g : Gh} {xs : List Value}, D.cL ds = true → RelL w g ds xs → RelL w g.cl (D.erL ds) xs
 | [], _, _, _, h => by simpa [RelL, D.erL] using h
 | d :: ds, _, _, hc, h => by
   simp only [RelL, D.erL, D.cL, Bool.and_eq_true] at h hc ⊢
   obtain ⟨y, ys, h1, h2, h3⟩ := h
   exact ⟨y, ys, h1, Rel.closed d hc.1 h2, RelL.closed ds hc.2 h3⟩
end
section lists
variable {w : World} {g : Gh} {I : Nat → Nat → Prop}
theorem RelL.nil : RelL w g [] [] := by simp [RelL]
theorem RelL.cons {d ds x xs} (h : Rel w g d x) (hs : RelL w g ds xs) : RelL w g (d :: ds) (x :: xs) := by
 simp only [RelL]; exact ⟨x, xs, rfl, h, hs⟩
theorem RelL.one {d x} (h : Rel w g d x) : RelL w g [d] [x] := RelL.cons h RelL.nil
theorem RelL.inv_nil {xs} (h : RelL w g [] xs) : xs = [] := by simpa [RelL] using h
theorem RelL.inv {d ds xs} (h : RelL w g (d :: ds) xs) : ∃ y ys, xs = y :: ys ∧ Rel w g d y ∧ RelL w g ds ys := by
 simpa [RelL] using h
theorem RelL.length : ∀ {ds : List D} {xs : List Value}, RelL w g ds xs → xs.length = ds.length
 | [], xs, h => by rw [h.inv_nil]; rfl
 | d :: ds, xs, h => by
   obtain ⟨y, ys, rfl, _, h2⟩ := h.inv
   simp [RelL.length h2]
theorem RelL.get : ∀ {ds : List D} {xs : List Value} {i : Nat} {d : D}, RelL w g ds xs → ds[i]? = some d → ∃ x, xs[i]? = some x ∧ Rel w g d x
 | [], _, _, _, _, e => by simp at e
 | d :: ds, xs, 0, _, h, e => by
   obtain ⟨y, ys, rfl, h1, _⟩ := h.inv
   simp at e; subst e; exact ⟨y, by simp, h1⟩
 | d :: ds, xs, i + 1, d', h, e => by
   obtain ⟨y, ys, rfl, _, h2⟩ := h.inv
   obtain ⟨x, e1, e2⟩ := RelL.get (i := i) h2 (by simpa using e)
   exact ⟨x, by simpa using e1, e2⟩
theorem RelL.get' {ds : List D} {xs : List Value} {i : Nat} {x : Value} (h : RelL w g ds xs) (e : xs[i]? = some x) : ∃ d, ds[i]? = some d ∧ Rel w g d x := by
 have hl : i < ds.length := by
  rw [← h.length]
  rcases Nat.lt_or_ge i xs.length with g | g
  ·exact g
  ·rw [List.getElem?_eq_none g] at e; cases e
 obtain ⟨y, e1, e2⟩ := h.get (List.getElem?_eq_getElem hl)
 rw [e1] at e; cases e
 exact ⟨_, List.getElem?_eq_getElem hl, e2⟩
theorem RelL.getD {ds : List D} {xs : List Value} {i : Nat} {x : Value} (h : RelL w g ds xs) (e : xs[i]? = some x) : Rel w g (ds.getD i .u0) x := by
 obtain ⟨d, e1, e2⟩ := h.get' e
 simpa [List.getD, e1] using e2
theorem RelL.append : ∀ {ds es : List D} {xs ys : List Value}, RelL w g ds xs → RelL w g es ys → RelL w g (ds ++ es) (xs ++ ys)
 | [], _, _, _, h, g => by rw [h.inv_nil]; exact g
 | d :: ds, es, xs, ys, h, g => by
   obtain ⟨y, zs, rfl, h1, h2⟩ := h.inv
   exact RelL.cons h1 (RelL.append h2 g)
theorem RelL.take : ∀ {ds : List D} {xs : List Value} (n : Nat), RelL w g ds xs → RelL w g (ds.take n) (xs.take n)
 | [], _, _, h => by rw [h.inv_nil]; simp [RelL.nil]
 | d :: ds, _, 0, _ => by simp [RelL.nil]
 | d :: ds, _, n + 1, h => by
   obtain ⟨y, zs, rfl, h1, h2⟩ := h.inv
   exact RelL.cons h1 (RelL.take n h2)
theorem RelL.drop : ∀ {ds : List D} {xs : List Value} (n : Nat), RelL w g ds xs → RelL w g (ds.drop n) (xs.drop n)
 | [], _, _, h => by rw [h.inv_nil]; simp [RelL.nil]
 | d :: ds, _, 0, h => by simpa using h
 | d :: ds, _, n + 1, h => by
   obtain ⟨y, zs, rfl, h1, h2⟩ := h.inv
   simpa using RelL.drop n h2
theorem RelL.set : ∀ {ds : List D} {xs : List Value} (i : Nat) {d x}, RelL w g ds xs → Rel w g d x → RelL w g (ds.set i d) (xs.set i x)
 | [], _, _, _, _, h, _ => by rw [h.inv_nil]; simp [RelL.nil]
 | d :: ds, _, 0, _, _, h, g => by
   obtain ⟨y, zs, rfl, h1, h2⟩ := h.inv
   exact RelL.cons g h2
 | d :: ds, _, n + 1, _, _, h, g => by
   obtain ⟨y, zs, rfl, h1, h2⟩ := h.inv
   exact RelL.cons h1 (RelL.set n h2 g)
def setV (cs : List Value) (off : Nat) : List Value → List Value
 | [] => cs
 | d :: ds => setV (cs.set off d) (off + 1) ds
theorem zD6 : ∀ (ys cs : List Value) (off : Nat), (setV cs off ys).length = cs.length
 | [], _, _ => rfl
 | y :: ys, cs, off => by simp [setV, zD6 ys]
theorem setL_length : ∀ (ys cs : List D) (off : Nat), (setL cs off ys).length = cs.length
 | [], _, _ => rfl
 | y :: ys, cs, off => by simp [setL, setL_length ys]
theorem zEm : ∀ (ys cs : List Value) (off : Nat), off + ys.length ≤ cs.length → setV cs off ys = cs.take off ++ ys ++ cs.drop (off + ys.length)
 | [], cs, off, _ => by simp [setV]
 | y :: ys, cs, off, h => by
   simp at h
   rw [setV, zEm ys _ _ (by simp; omega)]
   exact list_seg_step cs off y ys (by omega)
theorem RelL.setL : ∀ {es : List D} {ys : List Value} {ds : List D} {xs : List Value} (off : Nat), RelL w g ds xs → RelL w g es ys → RelL w g (setL ds off es) (setV xs off ys)
 | [], _, _, _, _, h, g => by rw [g.inv_nil]; exact h
 | e :: es, _, ds, xs, off, h, g => by
   obtain ⟨y, zs, rfl, h1, h2⟩ := g.inv
   exact RelL.setL (off + 1) (h.set off h1) h2
theorem zFe : ∀ (ys cs : List Value) (off : Nat) (p : Value → Prop), (∀ x ∈ cs, p x) → (∀ y ∈ ys, p y) → ∀ z ∈ setV cs off ys, p z
 | [], _, _, _, h, _ => h
 | y :: ys, cs, off, p, h, g => by
   refine zFe ys _ _ p (fun x hx => ?_) (fun z hz => g z (by simp [hz]))
   rcases List.mem_or_eq_of_mem_set hx with h1 | h1
   ·exact h x h1
   ·rw [h1]; exact g y (by simp)
theorem Rel.cells {d : D} {x : Value} (hv : d.iV = true) (h : Rel w g d x) : RelL w g d.cells x.cells.toList ∧ ∀ y ∈ x.cells.toList, oneC y := by
 cases d with
 | u0 => simp [D.iV] at hv
 | skip => simp [D.iV] at hv
 | tup vs => simp [D.iV] at hv
 | agg cs =>
   simp only [Rel] at h
   obtain ⟨xs, rfl, h2, h3⟩ := h
   simpa [D.cells, Value.cells] using ⟨h2, h3⟩
 | int k n => simp only [Rel] at h; subst h; exact ⟨RelL.one (by simp [Rel]), by simp [Value.cells, oneC, Value.oneCell']⟩
 | bool k => simp only [Rel] at h; subst h; exact ⟨RelL.one (by simp [Rel]), by simp [Value.cells, oneC, Value.oneCell']⟩
 | str k => simp only [Rel] at h; subst h; exact ⟨RelL.one (by simp [Rel]), by simp [Value.cells, oneC, Value.oneCell']⟩
 | lit v =>
   have h0 := h
   simp only [Rel] at h; obtain ⟨rfl, h1⟩ := h
   have hc : x.cells = #[x] := by cases x <;> first | rfl | simp [Value.oneCell'] at h1
   rw [hc]; exact ⟨RelL.one h0, by simpa [oneC] using h1⟩
 | slice es own =>
   have h0 := h
   simp only [Rel] at h; obtain ⟨a, cap, k, xs, h | ⟨h, _⟩, _⟩ := h <;> subst h <;> exact ⟨RelL.one h0, by simp [Value.cells, oneC, Value.oneCell']⟩
 | sl b k off len cap =>
   have h0 := h
   simp only [Rel] at h; obtain ⟨n, o, _, rfl, _⟩ := h
   exact ⟨RelL.one h0, by simp [Value.cells, oneC, Value.oneCell']⟩
 | gs t n =>
   have h0 := h
   simp only [Rel] at h; obtain ⟨a, cap, T, rfl, _⟩ := h
   exact ⟨RelL.one h0, by simp [Value.cells, oneC, Value.oneCell']⟩
 | gp t n off =>
   have h0 := h
   simp only [Rel] at h; obtain ⟨a, T, rfl, _⟩ := h
   exact ⟨RelL.one h0, by simp [Value.cells, oneC, Value.oneCell']⟩
 | mp b =>
   have h0 := h
   simp only [Rel] at h; obtain ⟨n, _, rfl⟩ := h
   exact ⟨RelL.one h0, by simp [Value.cells, oneC, Value.oneCell']⟩
 | iface t d =>
   have h0 := h
   simp only [Rel] at h; obtain ⟨y, rfl, _⟩ := h
   exact ⟨RelL.one h0, by simp [Value.cells, oneC, Value.oneCell']⟩
 | fn f a c =>
   have h0 := h
   simp only [Rel] at h; obtain ⟨xs, ys, rfl, _⟩ := h
   exact ⟨RelL.one h0, by simp [Value.cells, oneC, Value.oneCell']⟩
 | ptr b off =>
   have h0 := h
   simp only [Rel] at h; obtain ⟨n, _, rfl⟩ := h
   exact ⟨RelL.one h0, by simp [Value.cells, oneC, Value.oneCell']⟩
 | ip cs =>
   have h0 := h
   simp only [Rel] at h; obtain ⟨a, xs, rfl, _⟩ := h
   exact ⟨RelL.one h0, by simp [Value.cells, oneC, Value.oneCell']⟩
theorem Rel.cells_size {d : D} {x : Value} (hv : d.iV = true) (h : Rel w g d x) : x.cells.size = d.cells.length := by
 have := (h.cells hv).1.length
 simpa using this
theorem At.drop {a : Addr} {ys : List Value} (h : At w I a ys) (n : Nat) : At w I ⟨a.block, a.off + n, none⟩ (ys.drop n) := by
 refine ⟨fun _ => rfl, fun j y hj => ?_⟩
 have := h.2 (n + j) y (by simpa using hj)
 simpa [Nat.add_assoc] using this
theorem At.take {a : Addr} {ys : List Value} (h : At w I a ys) (n : Nat) : At w I a (ys.take n) := by
 refine ⟨fun q => h.1 fun e => q (by rw [e]; simp), fun j y hj => h.2 j y ?_⟩
 rw [List.getElem?_take] at hj
 split at hj
 ·exact hj
 ·cases hj
theorem add_eq (a : Addr) (h : a.spot = none) (n : Nat) : a.add n = ⟨a.block, a.off + n, none⟩ := by
 obtain ⟨b, o, s⟩ := a
 simp at h; subst h
 exact Addr.add_lit b o n
theorem At.nil {a : Addr} : At w I a [] := ⟨fun h => absurd rfl h, fun j y hj => by simp at hj⟩
theorem At.add {a : Addr} {ys : List Value} (h : At w I a ys) (n : Nat) : At w I (a.add n) (ys.drop n) := by
 by_cases e : ys = []
 ·subst e; rw [List.drop_nil]; exact At.nil
 ·rw [add_eq a (h.1 e)]; exact h.drop n
theorem zBy : ∀ (xs : List Value) (k : Nat), (∀ y ∈ xs, y.cells.size = k) → (flat xs).length = xs.length * k
 | [], k, _ => by simp [flat]
 | x :: xs, k, h => by
   simp only [flat, List.length_append, Array.length_toList, List.length_cons]
   rw [zBy xs k (fun y hy => h y (by simp [hy])), h x (by simp), Nat.add_mul]; omega
theorem flat_drop : ∀ (xs : List Value) (k i : Nat), (∀ y ∈ xs, y.cells.size = k) → (flat xs).drop (i * k) = flat (xs.drop i)
 | xs, k, 0, _ => by simp
 | [], k, i + 1, _ => by simp [flat]
 | x :: xs, k, i + 1, h => by
   simp only [flat, List.drop_succ_cons]
   have hx : x.cells.toList.length = k := by simpa using h x (by simp)
   rw [← flat_drop xs k i (fun y hy => h y (by simp [hy]))]
   rw [show (i + 1) * k = x.cells.toList.length + i * k by rw [Nat.add_mul]; omega, List.drop_length_add_append]
theorem zC8 : ∀ (xs ys : List Value), flat (xs ++ ys) = flat xs ++ flat ys
 | [], _ => rfl
 | x :: xs, ys => by simp [flat, zC8 xs ys]
theorem flat_take (xs : List Value) (k i : Nat) (h : ∀ y ∈ xs, y.cells.size = k) (hi : i ≤ xs.length) : (flat xs).take (i * k) = flat (xs.take i) := by
 have e : flat xs = flat (xs.take i) ++ flat (xs.drop i) := by rw [← zC8, List.take_append_drop]
 have hl : (flat (xs.take i)).length = i * k := by
  rw [zBy _ k (fun y hy => h y (List.mem_of_mem_take hy))]; simp [Nat.min_eq_left hi]
 rw [e, ← hl]; simp
theorem flat_at {a : Addr} {xs : List Value} {k i : Nat} {x : Value} (h : At w I a (flat xs)) (hk : ∀ y ∈ xs, y.cells.size = k) (hi : xs[i]? = some x) :
 At w I (a.add (i * k)) x.cells.toList := by
 have h1 := h.add (i * k)
 rw [flat_drop xs k i hk] at h1
 have hl : i < xs.length := by
  rcases Nat.lt_or_ge i xs.length with g | g
  ·exact g
  ·rw [List.getElem?_eq_none g] at hi; cases hi
 have e : xs.drop i = x :: xs.drop (i + 1) := by
  rw [List.drop_eq_getElem_cons hl]
  rw [List.getElem?_eq_getElem hl] at hi
  cases hi; rfl
 rw [e] at h1
 have h2 := h1.take x.cells.toList.length
 simpa [flat] using h2
end lists
end GoV
end
section
namespace GoV
open Go
def toD : Value → Option D
 | .int k n => some (.int k n)
 | .bool b => some (.bool b)
 | .string s => some (.str s.data.toList)
 | .agg _ => none
 | .tuple _ => none
 | v => some (.lit v)
def toDs : List Value → Option (List D)
 | [] => some []
 | v :: vs =>
   match toD v, toDs vs with
   | some d, some ds => some (d :: ds)
   | _, _ => none
def szOf (P : Program) (t : TypeId) : Option Nat := (P.info? t).map (·.size)
def zCc (P : Program) (t : TypeId) : Option (List D) :=
 match P.info? t with
 | some i => match i.zero with
   | some z => toDs z.cells.toList
   | none => none
 | none => none
def places (P : Program) (fs : List Field) : Option (List (Nat × Nat)) :=
 fs.mapM (fun f => (P.info? f.type).map fun i => (f.offset, i.size))
def pick (ps : List (Nat × Nat)) : List Nat → Option (List (Nat × Nat))
 | [] => some []
 | i :: is =>
   match ps[i]?, pick ps is with
   | some p, some r => some (p :: r)
   | _, _ => none
def zCb (P : Program) : Nat → Nat → List Field → Option (List EK)
 | 0, _, _ => none
 | _ + 1, _, [] => some []
 | d + 1, n, f :: fs =>
   if f.offset = n ∧ f.name ≠ "_" then
    match P.underlying f.type with
    | some (.int _) => (zCb P d (n + 1) fs).map (.int :: ·)
    | some .bool => (zCb P d (n + 1) fs).map (.bool :: ·)
    | some .string => (zCb P d (n + 1) fs).map (.str :: ·)
    | some (.struct gs) =>
      match zCb P d 0 gs.toList with
      | some ks => if P.stoodInHeld f.type = false ∧ szOf P f.type = some ks.length then (zCb P d (n + ks.length) fs).map (ks ++ ·) else none
      | none => none
    | _ => none
   else none
def zBi : TypeDesc → Bool
 | .struct _ => true
 | .array _ _ => true
 | _ => false
def resEqI (op : BinOp) (x y : Operand) : Option (OC × List Operand) :=
 match y with
 | .const _ =>
   match op with
   | .eql => some (.eqN false .ifc, [x, y])
   | .neq => some (.eqN true .ifc, [x, y])
   | _ => none
 | _ => none
def resBin (P : Program) (op : BinOp) (t : TypeId) (x y : Operand) : Option (OC × List Operand) :=
 match P.underlying t with
 | some (.int _) => some (.bin op, [x, y])
 | some .string => some (.bin op, [x, y])
 | some .bool =>
   match op with
   | .eql => some (.eqB false, [x, y])
   | .neq => some (.eqB true, [x, y])
   | _ => none
 | some (.struct fs) =>
   if P.stoodInHeld t = false ∧ P.eqGuardType P.depth t = false then
    match op, zCb P 40 0 fs.toList with
    | .eql, some ks => some (.eqA false ks, [x, y])
    | .neq, some ks => some (.eqA true ks, [x, y])
    | _, _ => none
   else none
 | some (.slice _) =>
   match op with
   | .eql => some (.eqN false .sl, [x, y])
   | .neq => some (.eqN true .sl, [x, y])
   | _ => none
 | some (.pointer _) =>
   match op with
   | .eql => some (.eqN false .ptr, [x, y])
   | .neq => some (.eqN true .ptr, [x, y])
   | _ => none
 | some (.interface _) => resEqI op x y
 | _ => none
def resApp (P : Program) (t u : TypeId) : Option (Nat × Nat) :=
 match P.underlying t with
 | some (.slice e) =>
   match P.info? e, zCc P e with
   | some i, some z =>
     if z.length = i.size ∧ 0 < i.size ∧ (match P.underlying u with | some (.slice _) => true | some .string => true | _ => false) = true then some (i.size, i.bytes) else none
   | _, _ => none
 | _ => none
def resMks (P : Program) (t : TypeId) : Option OC :=
 match P.underlying t with
 | some (.slice e) =>
   match P.info? e, zCc P e with
   | some i, some z => if z.length = i.size then some (.mks i.size i.bytes z) else none
   | _, _ => none
 | _ => none
def resBsl (P : Program) (t : TypeId) (len : Nat) (parts : List Nat) : Option OC :=
 match P.underlying t with
 | some (.slice e) =>
   match szOf P e, zCc P e with
   | some k, some z => if parts = List.range len ∧ z.length = k ∧ 0 < k then some (.bsl k) else none
   | _, _ => none
 | _ => none
def resCv (P : Program) (src dst : TypeId) : Option OC :=
 match P.underlying src, P.underlying dst with
 | some (.int _), some (.int k) => some (.cvI k)
 | some (.slice e), some .string =>
   match P.underlying e with
   | some (.int .u8) => some .b2s
   | _ => none
 | _, _ => none
def resSlc (P : Program) (t : TypeId) (lo hi : Bool) : Option OC :=
 match P.underlying t with
 | some .string => some (.slcS lo hi)
 | some (.slice e) => (szOf P e).map fun k => .slcL k lo hi
 | some (.array n e) => (szOf P e).map fun k => .slcA n k lo hi
 | _ => none
def mkOf (P : Program) (t : TypeId) : Option (MK × TypeId) :=
 match P.underlying t with
 | some (.map k e) =>
   match P.underlying k with
   | some (.int q) => some (.int q, e)
   | some .bool => some (.bool, e)
   | some .string => some (.str, e)
   | some (.struct fs) => if P.stoodInHeld k = false then (zCb P 40 0 fs.toList).map fun ks => (.st ks, e) else none
   | _ => none
 | _ => none
def zero1 (P : Program) (t : TypeId) : Option D :=
 match P.info? t with
 | some i =>
   match i.zero with
   | some (.agg cs) => (toDs cs.toList).map D.agg
   | some v => toD v
   | none => none
 | none => none
def zFt (P : Program) (c : Call) : Option (OC × List Operand) :=
 match c.callee with
 | .value f => some (.call, f :: c.args.toList)
 | .invoke r m => some (.inv m, r :: c.args.toList)
 | .builtin .len =>
   match c.argTypes[0]?, c.args.toList with
   | some t, [x] =>
     match P.underlying t with
     | some .string => some (.lenS, [x])
     | some (.slice _) => some (.lenL, [x])
     | some (.map _ _) => some (.lenM, [x])
     | _ => none
   | _, _ => none
 | .builtin .append =>
   match c.argTypes.toList, c.args.toList with
   | [t, u], [s, x] => (resApp P t u).map fun p => (.app p.1 p.2 (match P.underlying t with | some (.slice e) => e | _ => 0), [s, x])
   | _, _ => none
 | .builtin .copy =>
   match c.argTypes[0]?, c.args.toList with
   | some t, [s, x] =>
     match P.underlying t with
     | some (.slice e) => (szOf P e).map fun k => (.cpy k, [s, x])
     | _ => none
   | _, _ => none
 | .builtin .delete =>
   match c.argTypes[0]?, c.args.toList with
   | some t, [m, k] => (mkOf P t).map fun p => (.mdl p.1, [m, k])
   | _, _ => none
 | .builtin .min => some (.minI, c.args.toList)
 | .builtin .max => some (.maxI, c.args.toList)
 | _ => none
def typed (P : Program) (t : TypeId) : Bool :=
 match P.typeName? 3 t with
 | some n => n == "strings.Builder" || n == "record.writer"
 | none => false
def zAy (P : Program) : Op → Option (OC × List Operand)
 | .move x => some (.mv, [x])
 | .assign x => some (.mv, [x])
 | .nilCheck x => some (.nck P, [x])
 | .panic x => some (.pan, [x])
 | .pick c a b => some (.pick, [c, a, b])
 | .alloc t => (zCc P t).map fun z => (if typed P t then .newT t z else .newb z, [])
 | .box _ x => some (.box, [x])
 | .build t parts =>
   match zCc P t, P.underlying t with
   | some z, some (.struct fs) =>
     match places P fs.toList with
     | some ps => (pick ps (parts.toList.map (·.1))).map fun q => (.bld z q, parts.toList.map (·.2))
     | none => none
   | some z, some (.array _ e) => (szOf P e).map fun n => (.bld z (parts.toList.map fun p => (p.1 * n, n)), parts.toList.map (·.2))
   | _, _ => none
 | .load t x =>
   match szOf P t, P.underlying t with
   | some n, some d => if zBi d then some (.ld true n, [x]) else some (.ld false 1, [x])
   | _, _ => none
 | .store t a v => (szOf P t).map fun n => (.st n, [a, v])
 | .binOp op t x y _ => resBin P op t x y
 | .unOp op _ x => some (.un op, [x])
 | .convert src dst x => (resCv P src dst).map fun oc => (oc, [x])
 | .buildSlice t len parts => (resBsl P t len (parts.toList.map (·.1))).map fun oc => (oc, parts.toList.map (·.2))
 | .makeSlice t l c => (resMks P t).map fun oc => (oc, [l, c])
 | .range t x =>
   match P.underlying t with
   | some .string => some (.rngS, [x])
   | some (.map _ _) => some (.rngM, [x])
   | _ => none
 | .next it true => some (.nxtS, [it])
 | .next it false => some (.nxtM, [it])
 | .entry it => some (.ent, [it])
 | .makeMap t none => (mkOf P t).map fun _ => (.newM, [])
 | .mapUpdate t m k v => (mkOf P t).map fun p => (.mpu p.1, [m, k, v])
 | .insert t m k v => (mkOf P t).map fun p => (.mpu p.1, [m, k, v])
 | .lookup t m k ok => match mkOf P t with
   | some p => (zero1 P p.2).map fun z => (.lkp p.1 ok z, [m, k])
   | none => none
 | .makeInterface t x => if P.concrete t then some (.mkI t, [x]) else none
 | .makeFunc f first cap => some (.mkF f first.size, first.toList ++ cap.toList)
 | .slice t x lo hi mx =>
   match mx with
   | none => (resSlc P t lo.isSome hi.isSome).map fun oc => (oc, x :: (lo.toList ++ hi.toList))
   | some m => match lo, hi, P.underlying t with
     | some l, some h, some (.slice e) => (szOf P e).map fun k => (.slc3 k, [x, l, h, m])
     | _, _, _ => none
 | .fieldAddr t x f =>
   match P.underlying t with
   | some (.struct fs) =>
     match fs[f]? with
     | some fl => match szOf P fl.type with
       | some (_ + 1) => some (.fld fl.offset, [x])
       | _ => none
     | none => none
   | _ => none
 | .field t x f =>
   match P.underlying t with
   | some (.struct fs) =>
     match fs[f]? with
     | some fl => match szOf P fl.type, P.underlying fl.type with
       | some n, some d => if zBi d then some (.fv true fl.offset n, [x]) else some (.fv false fl.offset 1, [x])
       | _, _ => none
     | none => none
   | _ => none
 | .indexAddr t x i =>
   match P.underlying t with
   | some (.array n e) => (szOf P e).map fun k => (.ixaA n k, [x, i])
   | some (.slice e) => (szOf P e).map fun k => (.ixaS k, [x, i])
   | _ => none
 | .index t x i =>
   match P.underlying t with
   | some .string => some (.ixvS, [x, i])
   | _ => none
 | .extract t i => some (.ext i, [t])
 | .call c => zFt P c
 | _ => none
end GoV
end
section
set_option linter.unusedSimpArgs false
namespace GoV
open Go
theorem Keeps.refl (w : World) (r : List Nat) : Keeps w w r := ⟨rfl, rfl, rfl, Nat.le_refl _, fun _ _ _ => rfl⟩
theorem Keeps.trans {w w1 w2 : World} {r : List Nat} (h : Keeps w w1 r) (k : Keeps w1 w2 r) : Keeps w w2 r :=
 ⟨k.os.trans h.os, k.tape.trans h.tape, k.output.trans h.output, Nat.le_trans h.size k.size,
  fun b hb hn => (k.block b (Nat.lt_of_lt_of_le hb h.size) hn).trans (h.block b hb hn)⟩
theorem Keeps.trans' {w w1 w2 : World} {r r1 : List Nat} (h : Keeps w w1 r) (k : Keeps w1 w2 r1) (hr : ∀ n ∈ r1, n ∈ r ∨ w.heap.size ≤ n) : Keeps w w2 r :=
 ⟨k.os.trans h.os, k.tape.trans h.tape, k.output.trans h.output, Nat.le_trans h.size k.size,
  fun b hb hn => (k.block b (Nat.lt_of_lt_of_le hb h.size) (fun hm => by
   rcases hr b hm with q | q
   ·exact hn q
   ·omega)).trans (h.block b hb hn)⟩
theorem zA2 (w : World) (o : Obj) (k : Nat) (h : k < w.heap.size) : (w.alloc o).heap[k]? = w.heap[k]? := by
 show (w.heap.push o)[k]? = _
 rw [Array.getElem?_push, if_neg (by omega)]
theorem zBe (w : World) (o : Obj) : (w.alloc o).heap[w.heap.size]? = some o := by
 show (w.heap.push o)[w.heap.size]? = _
 rw [Array.getElem?_push, if_pos rfl]
theorem cell_of_heap {w w' : World} {b o : Nat} (h : w'.heap[b]? = w.heap[b]?) : w'.cell? ⟨b, o, none⟩ = w.cell? ⟨b, o, none⟩ := by
 simp [World.cell?, h]
theorem zCm {w : World} {b o : Nat} {xs : Array Value} {e : TypeId} {fr : Nat × Nat} (h : w.heap[b]? = some (.cells xs e fr)) : w.cell? ⟨b, o, none⟩ = xs[o]? := by
 simp [World.cell?, h]
theorem zDy {w : World} {b : Nat} {o : Obj} (h : w.heap[b]? = some o) : b < w.heap.size := by
 rcases Nat.lt_or_ge b w.heap.size with q | q
 ·exact q
 ·rw [Array.getElem?_eq_none q] at h; cases h
theorem zAd {α : Type} {l : List α} {i : Nat} {x : α} (h : l[i]? = some x) : i < l.length := by
 rcases Nat.lt_or_ge i l.length with q | q
 ·exact q
 ·rw [List.getElem?_eq_none q] at h; cases h
theorem zDx {l : List Nat} (h : l.Nodup) {i j n : Nat} (hi : l[i]? = some n) (hj : l[j]? = some n) : i = j :=
 (List.getElem?_inj (zAd hi) h).1 (hi.trans hj.symm)
theorem mem_blks {l : List Tk} {b : Nat} : b ∈ blks l ↔ ∃ T ∈ l, T.blk = some b := by simp [blks, List.mem_filterMap]
theorem zDs : ∀ {l : List Tk}, (blks l).Nodup → ∀ {i j : Nat} {T T' : Tk} {b : Nat}, l[i]? = some T → l[j]? = some T' → T.blk = some b → T'.blk = some b → i = j
 | [], _, i, _, _, _, _, h, _, _, _ => by simp at h
 | T0 :: l, hn, i, j, T, T', b, hi, hj, h1, h2 => by
   have hn' : (blks l).Nodup := by
    unfold blks at hn ⊢
    cases hb : T0.blk with
    | none => simpa [List.filterMap_cons, hb] using hn
    | some c => simp [List.filterMap_cons, hb] at hn; exact hn.2
   have key : ∀ (U : Tk), U ∈ l → U.blk = some b → T0.blk = some b → False := by
    intro U hU h3 h4
    unfold blks at hn
    simp [List.filterMap_cons, h4] at hn
    exact hn.1 U hU h3
   cases i with
   | zero =>
     cases j with
     | zero => rfl
     | succ j =>
       simp at hi hj; subst hi
       exact (key T' (List.mem_of_getElem? hj) h2 h1).elim
   | succ i =>
     cases j with
     | zero =>
       simp at hi hj; subst hj
       exact (key T (List.mem_of_getElem? hi) h1 h2).elim
     | succ j =>
       simp at hi hj
       rw [zDs hn' hi hj h1 h2]
theorem BlkRel.evo {w w' : World} {g g' : Gh} {B : Blk} {o : Option Obj} (he : Evo w g w' g') (h : BlkRel w g B o) : BlkRel w' g' B o := by
 cases B with
 | cells cs =>
   obtain ⟨xs, e, h1, h2, h3⟩ := h
   exact ⟨xs, e, h1, RelL.evo cs he h2, h3⟩
 | gone => trivial
 | map es clock =>
   obtain ⟨ents, h1, h2, h3, h4⟩ := h
   exact ⟨ents, h1, RelL.evo _ he h2, RelL.evo _ he h3, h4⟩
 | miter m s seen st =>
   obtain ⟨n, h1, h2⟩ := h
   exact ⟨n, he.ref m n h1, h2⟩
 | raw x => exact h
 | tcells e cs =>
   obtain ⟨xs, h1, h2, h3⟩ := h
   exact ⟨xs, h1, RelL.evo cs he h2, h3⟩
theorem TvRel.evo {w w' : World} {g g' : Gh} {T : Tk} {V : Tv} (he : Evo w g w' g') (hI : ∀ b, T.blk = some b → ∀ o, g'.I b o → g.I b o) (hb : ∀ b, T.blk = some b → w'.heap[b]? = w.heap[b]?) (h : TvRel w g T V) : TvRel w' g' T V := by
 cases V with
 | per k len => exact ⟨h.1, h.2.1, fun b h1 o ho => h.2.2 b h1 o (hI b h1 o ho)⟩
 | chg k cs =>
   refine ⟨h.1, h.2.1, h.2.2.1, fun b h1 => ⟨fun o ho => (h.2.2.2 b h1).1 o (hI b h1 o ho), ?_⟩⟩
   obtain ⟨xs, e, q1, q2⟩ := (h.2.2.2 b h1).2
   exact ⟨xs, e, (hb b h1).trans q1, RelL.evo cs he q2⟩
 | byt e bs =>
   refine ⟨h.1, h.2.1, h.2.2.1, fun b h1 => ⟨fun o ho => (h.2.2.2 b h1).1 o (hI b h1 o ho), ?_⟩⟩
   obtain ⟨xs, q1, q2⟩ := (h.2.2.2 b h1).2
   exact ⟨xs, (hb b h1).trans q1, q2⟩
theorem TkOk.keep {w w' : World} {g g' : Gh} {T : Tk} (hb : ∀ b, T.blk = some b → w'.heap[b]? = w.heap[b]?) (hr : ∀ b, T.blk = some b → b ∉ g.r → b ∉ g'.r) (h : TkOk w g T) : TkOk w' g' T := by
 refine ⟨h.1, h.2.1, fun b h1 => ?_⟩
 obtain ⟨h0, h2, h3, xs, e, h4, h5⟩ := h.2.2 b h1
 exact ⟨h0, hr b h1 h2, h3, xs, e, (hb b h1).trans h4, h5⟩
theorem TkOk.lt {w : World} {g : Gh} {T : Tk} (h : TkOk w g T) {b : Nat} (hb : T.blk = some b) : b < w.heap.size := by
 obtain ⟨_, _, _, xs, e, h4, _⟩ := h.2.2 b hb
 exact zDy h4
theorem HeapRel.own_lt {w : World} {g : Gh} {hp : Hp} (h : HeapRel w g hp) : ∀ n ∈ g.own, n < w.heap.size := by
 intro n hn
 rcases List.mem_append.1 hn with q | q
 ·exact h.lt n q
 ·obtain ⟨T, h1, h2⟩ := mem_blks.1 q
  exact (h.tok T h1).lt h2
theorem HeapRel.tokBlk {w : World} {g : Gh} {hp : Hp} (h : HeapRel w g hp) {t : Nat} {V : Tv} (hV : hp.tk[t]? = some V) : ∃ T, g.tk[t]? = some T ∧ TvRel w g T V ∧ TkOk w g T := by
 have hl := zAd hV
 have hT := List.getElem?_eq_getElem (l := g.tk) (i := t) (by rw [← h.lent]; exact hl)
 exact ⟨_, hT, h.tv t V _ hV hT, h.tok _ (List.mem_of_getElem? hT)⟩
theorem HeapRel.other {w w' : World} {g g' : Gh} {hp : Hp} (h : HeapRel w g hp) (he : Evo w g w' g') (hr : g'.r = g.r) (ht : g'.tk = g.tk)
 (hb : ∀ n ∈ g.own, w'.heap[n]? = w.heap[n]?) (hs : w.heap.size ≤ w'.heap.size)
 (hI : ∀ b o, g'.I b o → g.I b o ∨ (b < w'.heap.size ∧ b ∉ g.own)) : HeapRel w' g' hp := by
 have htb : ∀ T ∈ g.tk, ∀ b, T.blk = some b → b ∈ g.own := fun T hT b hb => List.mem_append.2 (.inr (mem_blks.2 ⟨T, hT, hb⟩))
 have hIt : ∀ T ∈ g.tk, ∀ b, T.blk = some b → ∀ o, g'.I b o → g.I b o := fun T hT b hb o ho => by
  rcases hI b o ho with q | q
  ·exact q
  ·exact absurd (htb T hT b hb) q.2
 refine ⟨by rw [hr]; exact h.len, fun b B n hB hn => ?_, fun n hn => ?_, by rw [hr]; exact h.nodup, by rw [ht]; exact h.lent, fun t V T hV hT => ?_, fun T hT => ?_, by rw [ht]; exact h.tokd, fun b o ho => ?_⟩
 ·rw [hr] at hn
  rw [hb n (List.mem_append.2 (.inl (List.mem_of_getElem? hn)))]
  exact (h.blk b B n hB hn).evo he
 ·rw [hr] at hn
  exact Nat.lt_of_lt_of_le (h.lt n hn) hs
 ·rw [ht] at hT
  have hm := List.mem_of_getElem? hT
  exact (h.tv t V T hV hT).evo he (hIt T hm) fun b hb' => hb b (htb T hm b hb')
 ·rw [ht] at hT
  exact (h.tok T hT).keep (fun b hb' => hb b (htb T hT b hb')) fun b _ hn => by rw [hr]; exact hn
 ·rcases hI b o ho with q | q
  ·exact ⟨Nat.lt_of_lt_of_le (h.imm b o q).1 hs, fun i hi => by rw [hr] at hi; exact (h.imm b o q).2 i hi⟩
  ·refine ⟨q.1, fun i hi => ?_⟩
   rw [hr] at hi
   exact absurd (List.mem_append.2 (.inl (List.mem_of_getElem? hi))) q.2
theorem Keeps.alloc (w : World) (o : Obj) (r : List Nat) : Keeps w (w.alloc o) r :=
 ⟨rfl, rfl, rfl, by simp, fun b hb _ => zA2 w o b hb⟩
theorem Evo.alloc (w : World) (o : Obj) {g : Gh} {hp : Hp} (h : HeapRel w g hp) : Evo w g (w.alloc o) g :=
 ⟨fun b o' hi => ⟨hi, cell_of_heap (zA2 w o b (h.imm b o' hi).1)⟩, fun _ _ h => h, fun _ T h => ⟨T, h, rfl, .inl rfl⟩⟩
theorem Inv.new {w0 g0 hp w g} (h : Inv w0 g0 hp w g) : ∀ n ∈ g.own, n ∈ g0.own ∨ w0.heap.size ≤ n := by
 intro n hn
 rcases List.mem_append.1 hn with q | q
 ·exact (h.newr n q).imp (fun p => List.mem_append.2 (.inl p)) id
 ·exact (h.newt n q).imp (fun p => List.mem_append.2 (.inr p)) id
theorem Inv.step {w0 g0 hp w g hp' w' g'} (h : Inv w0 g0 hp w g) (hh : HeapRel w' g' hp') (he : Evo w g w' g') (hk : Keeps w w' g.own) (hn : ∀ n ∈ g'.r, n ∈ g.r ∨ w.heap.size ≤ n) (ht : ∀ n ∈ blks g'.tk, n ∈ blks g.tk ∨ w.heap.size ≤ n)
 (hi : ∀ b o, g'.I b o → g.I b o ∨ w.heap.size ≤ b ∨ b ∈ blks g.tk) : Inv w0 g0 hp' w' g' := by
 have hsz := h.keeps.size
 refine ⟨hh, h.evo.trans he, h.keeps.trans' hk h.new, fun n hm => ?_, fun n hm => ?_, fun b o ho => ?_⟩
 ·rcases hn n hm with q | q
  ·exact h.newr n q
  ·exact .inr (Nat.le_trans hsz q)
 ·rcases ht n hm with q | q
  ·exact h.newt n q
  ·exact .inr (Nat.le_trans hsz q)
 ·rcases hi b o ho with q | q | q
  ·exact h.i1 b o q
  ·exact .inr (.inl (Nat.le_trans hsz q))
  ·rcases h.newt b q with p | p
   ·exact .inr (.inr p)
   ·exact .inr (.inl p)
theorem Inv.ghost {w0 g0 hp w g hp' g'} (h : Inv w0 g0 hp w g) (hh : HeapRel w g' hp') (he : Evo w0 g0 w g') (hn : ∀ n ∈ g'.r, n ∈ g.r ∨ w0.heap.size ≤ n) (ht : ∀ n ∈ blks g'.tk, n ∈ blks g.tk ∨ w0.heap.size ≤ n)
 (hi : ∀ b o, g'.I b o → g.I b o ∨ w0.heap.size ≤ b ∨ b ∈ blks g0.tk) : Inv w0 g0 hp' w g' := by
 refine ⟨hh, he, h.keeps, fun n hm => ?_, fun n hm => ?_, fun b o ho => ?_⟩
 ·rcases hn n hm with q | q
  ·exact h.newr n q
  ·exact .inr q
 ·rcases ht n hm with q | q
  ·exact h.newt n q
  ·exact .inr q
 ·rcases hi b o ho with q | q
  ·exact h.i1 b o q
  ·exact .inr q
theorem Inv.alloc {w0 g0 hp w g} (h : Inv w0 g0 hp w g) (o : Obj) : Inv w0 g0 hp (w.alloc o) g ∧ Evo w g (w.alloc o) g := by
 have he := Evo.alloc w o h.heap
 refine ⟨h.step (h.heap.other he rfl rfl (fun n hn => zA2 w o n (h.heap.own_lt n hn)) (by simp) fun b o ho => .inl ho) he (Keeps.alloc w o _) (fun n hn => .inl hn) (fun n hn => .inl hn) (fun b o ho => .inl ho), he⟩
theorem Inv.newBlk {w0 g0 hp w g} (h : Inv w0 g0 hp w g) (B : Blk) (o : Obj) (hB : ∀ w' g', Evo w g w' g' → BlkRel w' g' B (some o)) :
 Inv w0 g0 { hp with H := hp.H ++ [B] } (w.alloc o) { g with r := g.r ++ [w.heap.size] } ∧ Evo w g (w.alloc o) { g with r := g.r ++ [w.heap.size] } := by
 have h0 := h.heap
 have hne : w.heap.size ∉ g.own := fun hm => by have := h0.own_lt _ hm; omega
 have hner : w.heap.size ∉ g.r := fun hm => hne (List.mem_append.2 (.inl hm))
 have hbk : ∀ n, n < w.heap.size → (w.alloc o).heap[n]? = w.heap[n]? := fun n hn => zA2 w o n hn
 have he : Evo w g (w.alloc o) { g with r := g.r ++ [w.heap.size] } := by
  refine ⟨fun b o' hi => ⟨hi, cell_of_heap (hbk b (h0.imm b o' hi).1)⟩, fun b n hb => ?_, fun _ T h => ⟨T, h, rfl, .inl rfl⟩⟩
  show (g.r ++ [w.heap.size])[b]? = some n
  rw [List.getElem?_append_left (zAd hb)]; exact hb
 have htb : ∀ T ∈ g.tk, ∀ b, T.blk = some b → b < w.heap.size := fun T hT b hb => (h0.tok T hT).lt hb
 have hh : HeapRel (w.alloc o) { g with r := g.r ++ [w.heap.size] } { hp with H := hp.H ++ [B] } := by
  refine ⟨by simp [h0.len], fun b C n hC hn => ?_, fun n hn => ?_, ?_, h0.lent, fun t V T hV hT => ?_, fun T hT => ?_, h0.tokd, fun b o' ho => ?_⟩
  ·simp only at hC hn
   by_cases hlt : b < hp.H.length
   ·rw [List.getElem?_append_left hlt] at hC
    rw [List.getElem?_append_left (by rw [← h0.len]; exact hlt)] at hn
    rw [hbk n (h0.lt n (List.mem_of_getElem? hn))]
    exact (h0.blk b C n hC hn).evo he
   ·rw [List.getElem?_append_right (by omega)] at hC
    rw [List.getElem?_append_right (by rw [← h0.len]; omega), ← h0.len] at hn
    have h0' : b - hp.H.length = 0 := by have := zAd hC; simp at this; omega
    rw [h0'] at hC hn
    simp at hC hn
    subst hC; subst hn
    rw [zBe]
    exact hB _ _ he
  ·simp only [List.mem_append, List.mem_singleton] at hn
   rcases hn with hn | hn
   ·have := h0.lt n hn; simp; omega
   ·subst hn; simp
  ·simp only [List.nodup_append]
   refine ⟨h0.nodup, by simp, fun a ha b hb => ?_⟩
   simp at hb; subst hb
   intro e; subst e; exact hner ha
  ·exact (h0.tv t V T hV hT).evo he (fun b _ o ho => ho) fun b hb => hbk b (htb T (List.mem_of_getElem? hT) b hb)
  ·refine (h0.tok T hT).keep (fun b hb => hbk b (htb T hT b hb)) fun b hb hn => ?_
   simp only [List.mem_append, List.mem_singleton, not_or]
   exact ⟨hn, fun e => by have := htb T hT b hb; omega⟩
  ·have h3 := h0.imm b o' ho
   refine ⟨by simp; omega, fun i hi => ?_⟩
   simp only at hi ⊢
   by_cases hlt : i < g.r.length
   ·rw [List.getElem?_append_left hlt] at hi
    rw [List.getElem?_append_left (by rw [h0.len]; exact hlt)]
    exact h3.2 i hi
   ·rw [List.getElem?_append_right (by omega)] at hi
    have : i - g.r.length = 0 := by have := zAd hi; simp at this; omega
    rw [this] at hi; simp at hi; omega
 refine ⟨h.step hh he (Keeps.alloc w o _) (fun n hn => ?_) (fun n hn => .inl hn) (fun b o ho => .inl ho), he⟩
 simp only [List.mem_append, List.mem_singleton] at hn
 rcases hn with q | q
 ·exact .inl q
 ·subst q; exact .inr (Nat.le_refl _)
theorem Inv.write {w0 g0 hp w g w'} (h : Inv w0 g0 hp w g) (b n : Nat) (hn : g.r[b]? = some n) (hng : ∃ C, hp.H[b]? = some C ∧ C ≠ .gone)
 (B : Blk) (hw : ∀ w1 g1, Evo w g w1 g1 → BlkRel w1 g1 B w'.heap[n]?) (ho : ∀ m, m ≠ n → w'.heap[m]? = w.heap[m]?)
 (hs : w'.heap.size = w.heap.size) (hos : w'.os = w.os) (htp : w'.tape = w.tape) (hout : w'.output = w.output) :
 Inv w0 g0 { hp with H := hp.H.set b B } w' g ∧ Evo w g w' g := by
 have h0 := h.heap
 have hmem : n ∈ g.r := List.mem_of_getElem? hn
 have hnI : ∀ o, ¬ g.I n o := by
  intro o hi
  obtain ⟨C, h1, h2⟩ := hng
  have := (h0.imm n o hi).2 b hn
  rw [h1] at this; cases this; exact h2 rfl
 have he : Evo w g w' g := by
  refine ⟨fun b' o' hi => ⟨hi, cell_of_heap (ho b' fun e => ?_)⟩, fun _ _ h => h, fun _ T h => ⟨T, h, rfl, .inl rfl⟩⟩
  subst e; exact hnI o' hi
 have htb : ∀ T ∈ g.tk, ∀ c, T.blk = some c → w'.heap[c]? = w.heap[c]? := fun T hT c hc => ho c fun e => by
  subst e; exact ((h0.tok T hT).2.2 _ hc).2.1 hmem
 have hh : HeapRel w' g { hp with H := hp.H.set b B } := by
  refine ⟨by simp [h0.len], fun b' C n' hC hn' => ?_, fun m hm => by rw [hs]; exact h0.lt m hm, h0.nodup, h0.lent, fun t V T hV hT => ?_, fun T hT => ?_, h0.tokd, fun b' o' hi => ?_⟩
  ·simp only [List.getElem?_set] at hC
   by_cases hbb : b = b'
   ·subst hbb
    have hl : b < hp.H.length := by rw [h0.len]; exact zAd hn
    simp [hl] at hC
    subst hC
    rw [hn] at hn'; cases hn'
    exact hw w' g he
   ·rw [if_neg hbb] at hC
    have hne : n' ≠ n := by
     intro e; subst e
     exact hbb (zDx h0.nodup hn hn')
    rw [ho n' hne]
    exact (h0.blk b' C n' hC hn').evo he
  ·exact (h0.tv t V T hV hT).evo he (fun b _ o ho => ho) (htb T (List.mem_of_getElem? hT))
  ·exact (h0.tok T hT).keep (htb T hT) fun _ _ hn => hn
  ·refine ⟨by rw [hs]; exact (h0.imm b' o' hi).1, fun i hi' => ?_⟩
   simp only [List.getElem?_set]
   by_cases e : b = i
   ·subst e
    rw [hn] at hi'; cases hi'
    exact absurd hi (hnI o')
   ·rw [if_neg e]; exact (h0.imm b' o' hi).2 i hi'
 refine ⟨h.step hh he ⟨hos, htp, hout, by omega, fun m hm hnr => ho m fun e => ?_⟩ (fun m hm => .inl hm) (fun m hm => .inl hm) (fun b o ho => .inl ho), he⟩
 subst e
 exact hnr (List.mem_append.2 (.inl hmem))
theorem Inv.more {w0 g0 hp w g} (h : Inv w0 g0 hp w g) (b : Nat) (p : Nat → Prop) (hb : b < w.heap.size) (ho : b ∉ g.own) (hnew : w0.heap.size ≤ b) :
 Inv w0 g0 hp w { g with I := fun c o => g.I c o ∨ (c = b ∧ p o) } ∧ Evo w g w { g with I := fun c o => g.I c o ∨ (c = b ∧ p o) } := by
 have he : Evo w g w { g with I := fun c o => g.I c o ∨ (c = b ∧ p o) } := ⟨fun c o hi => ⟨.inl hi, rfl⟩, fun _ _ h => h, fun _ T h => ⟨T, h, rfl, .inl rfl⟩⟩
 refine ⟨⟨h.heap.other he rfl rfl (fun _ _ => rfl) (Nat.le_refl _) ?_, h.evo.trans he, h.keeps, h.newr, h.newt, ?_⟩, he⟩
 ·rintro c o (q | ⟨rfl, _⟩)
  ·exact .inl q
  ·exact .inr ⟨hb, ho⟩
 ·rintro c o (q | ⟨rfl, _⟩)
  ·exact h.i1 c o q
  ·exact .inr (.inl hnew)
theorem HeapRel.newTok {w g hp} (h0 : HeapRel w g hp) (T : Tk) (V : Tv) (hT : TkOk w { g with tk := g.tk ++ [T] } T) (hV : TvRel w { g with tk := g.tk ++ [T] } T V) (hb : ∀ b, T.blk = some b → b ∉ g.own) :
 HeapRel w { g with tk := g.tk ++ [T] } { hp with tk := hp.tk ++ [V] } ∧ Evo w g w { g with tk := g.tk ++ [T] } := by
 have he : Evo w g w { g with tk := g.tk ++ [T] } := by
  refine ⟨fun c o hi => ⟨hi, rfl⟩, fun _ _ h => h, fun t U h => ⟨U, ?_, rfl, .inl rfl⟩⟩
  show (g.tk ++ [T])[t]? = some U
  rw [List.getElem?_append_left (zAd h)]; exact h
 refine ⟨⟨h0.len, fun b B n hB hn => (h0.blk b B n hB hn).evo he, h0.lt, h0.nodup, by simp [h0.lent], fun t U S hU hS => ?_, fun S hS => ?_, ?_, h0.imm⟩, he⟩
 ·simp only at hU hS
  by_cases hlt : t < hp.tk.length
  ·rw [List.getElem?_append_left hlt] at hU
   rw [List.getElem?_append_left (by rw [← h0.lent]; exact hlt)] at hS
   exact (h0.tv t U S hU hS).evo he (fun b _ o ho => ho) fun _ _ => rfl
  ·rw [List.getElem?_append_right (by omega)] at hU
   rw [List.getElem?_append_right (by rw [← h0.lent]; omega), ← h0.lent] at hS
   have h1 : t - hp.tk.length = 0 := by have := zAd hU; simp at this; omega
   rw [h1] at hU hS
   simp at hU hS
   subst hU; subst hS
   exact hV
 ·simp only [List.mem_append, List.mem_singleton] at hS
  rcases hS with hS | hS
  ·exact (h0.tok S hS).keep (fun _ _ => rfl) fun _ _ hn => hn
  ·subst hS; exact hT
 ·show (blks (g.tk ++ [T])).Nodup
  unfold blks
  rw [List.filterMap_append, List.nodup_append]
  refine ⟨h0.tokd, ?_, fun a ha b hb' => ?_⟩
  ·cases hT' : T.blk <;> simp [List.filterMap_cons, hT']
  ·cases hT' : T.blk with
   | none => simp [List.filterMap_cons, hT'] at hb'
   | some c =>
     simp [List.filterMap_cons, hT'] at hb'
     subst hb'
     intro e; subst e
     exact hb _ hT' (List.mem_append.2 (.inr ha))
theorem blks_set_new {l : List Tk} {t : Nat} {T' : Tk} {n : Nat} : n ∈ blks (l.set t T') → n ∈ blks l ∨ T'.blk = some n := by
 intro h
 obtain ⟨U, h1, h2⟩ := mem_blks.1 h
 rcases List.mem_or_eq_of_mem_set h1 with q | q
 ·exact .inl (mem_blks.2 ⟨U, q, h2⟩)
 ·subst q; exact .inr h2
theorem zFm : ∀ {l : List Tk}, (blks l).Nodup → ∀ (t : Nat) (T' : Tk), (∀ b, T'.blk = some b → ∀ (j : Nat) (U : Tk), l[j]? = some U → U.blk = some b → j = t) → (blks (l.set t T')).Nodup
 | [], _, _, _, _ => by simp [blks]
 | U :: l, hn, 0, T', h => by
   have hl : (blks l).Nodup := by
    unfold blks at hn ⊢
    cases hb : U.blk with
    | none => simpa [List.filterMap_cons, hb] using hn
    | some c => simp [List.filterMap_cons, hb] at hn; exact hn.2
   simp only [List.set_cons_zero]
   unfold blks at hl ⊢
   cases hb : T'.blk with
   | none => simpa [List.filterMap_cons, hb] using hl
   | some c =>
     rw [List.filterMap_cons_some hb, List.nodup_cons]
     refine ⟨fun hm => ?_, hl⟩
     obtain ⟨S, h1, h2⟩ := List.mem_filterMap.1 hm
     obtain ⟨j, hj⟩ := List.mem_iff_getElem?.1 h1
     have := h c hb (j + 1) S (by simpa using hj) h2
     omega
 | U :: l, hn, t + 1, T', h => by
   have hl : (blks l).Nodup := by
    unfold blks at hn ⊢
    cases hb : U.blk with
    | none => simpa [List.filterMap_cons, hb] using hn
    | some c => simp [List.filterMap_cons, hb] at hn; exact hn.2
   have ih := zFm hl t T' fun b hb j S hj hS => by
    have := h b hb (j + 1) S (by simpa using hj) hS
    omega
   simp only [List.set_cons_succ]
   unfold blks at hn ih ⊢
   cases hb : U.blk with
   | none => simpa [List.filterMap_cons, hb] using ih
   | some c =>
     rw [List.filterMap_cons_some hb, List.nodup_cons]
     refine ⟨fun hm => ?_, ih⟩
     rcases blks_set_new hm with q | q
     ·rw [List.filterMap_cons_some hb, List.nodup_cons] at hn
      exact hn.1 q
     ·have := h c q 0 U (by simp) hb
      omega
theorem HeapRel.setTok {w g hp w'} {t : Nat} {T T' : Tk} {V' : Tv} {I' : Nat → Nat → Prop} (h0 : HeapRel w g hp) (hT : g.tk[t]? = some T)
 (he : Evo w g w' ⟨g.r, g.tk.set t T', I'⟩) (hb : ∀ n, n < w.heap.size → T.blk ≠ some n → w'.heap[n]? = w.heap[n]?) (hs : w.heap.size ≤ w'.heap.size)
 (hn : ∀ n, T'.blk = some n → T.blk = some n ∨ w.heap.size ≤ n) (hI : ∀ b o, I' b o → g.I b o ∨ (T'.blk = some b ∧ b < w'.heap.size))
 (hok : TkOk w' ⟨g.r, g.tk.set t T', I'⟩ T') (hV : TvRel w' ⟨g.r, g.tk.set t T', I'⟩ T' V') :
 HeapRel w' ⟨g.r, g.tk.set t T', I'⟩ { hp with tk := hp.tk.set t V' } := by
 have hTm := List.mem_of_getElem? hT
 have htl := zAd hT
 have hrne : ∀ n ∈ g.r, T.blk ≠ some n := fun n hn e => ((h0.tok T hTm).2.2 n e).2.1 hn
 have hone : ∀ (j : Nat) (U : Tk), g.tk[j]? = some U → j ≠ t → ∀ b, U.blk = some b → T.blk ≠ some b := fun j U hj hne b hU e => hne (zDs h0.tokd hj hT hU e)
 refine ⟨h0.len, fun b B n hB hn' => ?_, fun n hn' => Nat.lt_of_lt_of_le (h0.lt n hn') hs, h0.nodup, by simp [h0.lent], fun j U S hU hS => ?_, fun S hS => ?_, ?_, fun b o ho => ?_⟩
 ·have hm := List.mem_of_getElem? hn'
  rw [hb n (h0.lt n hm) (hrne n hm)]
  exact (h0.blk b B n hB hn').evo he
 ·simp only [List.getElem?_set] at hU hS
  by_cases e : t = j
  ·subst e
   simp [htl, h0.lent] at hU hS
   subst hU; subst hS
   exact hV
  ·rw [if_neg e] at hU hS
   have hne := hone j S hS (fun q => e q.symm)
   have hS' := h0.tok S (List.mem_of_getElem? hS)
   refine (h0.tv j U S hU hS).evo he (fun b hb' o ho => ?_) fun b hb' => hb b (hS'.lt hb') (hne b hb')
   rcases hI b o ho with q | q
   ·exact q
   ·exfalso
    rcases hn b q.1 with q2 | q2
    ·exact hne b hb' q2
    ·have := hS'.lt hb'; omega
 ·obtain ⟨j, hj⟩ := List.mem_iff_getElem?.1 hS
  simp only [List.getElem?_set] at hj
  by_cases e : t = j
  ·subst e
   simp [htl] at hj
   subst hj; exact hok
  ·rw [if_neg e] at hj
   have hS' := h0.tok S (List.mem_of_getElem? hj)
   exact hS'.keep (fun b hb' => hb b (hS'.lt hb') (hone j S hj (fun q => e q.symm) b hb')) fun _ _ hn => hn
 ·refine zFm h0.tokd t T' fun b hb' j U hj hU => ?_
  rcases hn b hb' with q | q
  ·exact zDs h0.tokd hj hT hU q
  ·exfalso
   have := (h0.tok U (List.mem_of_getElem? hj)).lt hU; omega
 ·rcases hI b o ho with q | q
  ·exact ⟨Nat.lt_of_lt_of_le (h0.imm b o q).1 hs, (h0.imm b o q).2⟩
  ·refine ⟨q.2, fun i hi => ?_⟩
   exfalso
   rcases hn b q.1 with q2 | q2
   ·exact hrne b (List.mem_of_getElem? hi) q2
   ·have := h0.lt b (List.mem_of_getElem? hi); omega
end GoV
end
section
set_option linter.unusedSimpArgs false
set_option maxHeartbeats 1000000
namespace GoV
open Go
def Done (P : Program) (ρ : Operand → Value) (o : Oper) (w0 : World) (g0 : Gh) (w : World) (g : Gh) (K : D → Hp → Prop) : Prop :=
 ∃ d hp' g' v w', K d hp' ∧ Inv w0 g0 hp' w' g' ∧ Evo w g w' g' ∧ Rel w' g' d v ∧
  ((execOp ρ o).run P w = .ok (.value v) w' ∨ ((execOp ρ o).run P w = .ok .skip w' ∧ v = Go.undef))
section
variable {P : Program} {ρ : Operand → Value} {o : Oper} {w0 : World} {g0 : Gh} {hp : Hp} {w : World} {g : Gh} {K : D → Hp → Prop}
theorem zAg (hi : Inv w0 g0 hp w g) {d : D} {v : Value} (hk : K d hp) (hr : Rel w g d v) (hx : (execOp ρ o).run P w = .ok (.value v) w) :
 Done P ρ o w0 g0 w g K := ⟨d, hp, g, v, w, hk, hi, Evo.refl _ _, hr, .inl hx⟩
theorem zAz (hi : Inv w0 g0 hp w g) {k : IntKind} {n : Int} (hk : K (.int k n) hp) (hx : (execOp ρ o).run P w = .ok (.value (.int k n)) w) :
 Done P ρ o w0 g0 w g K := zAg hi hk (by simp [Rel]) hx
theorem zA5 (hi : Inv w0 g0 hp w g) {b : Bool} (hk : K (.bool b) hp) (hx : (execOp ρ o).run P w = .ok (.value (.bool b)) w) :
 Done P ρ o w0 g0 w g K := zAg hi hk (by simp [Rel]) hx
theorem zDl (hi : Inv w0 g0 hp w g) {s : List UInt8} (hk : K (.str s) hp) (hx : (execOp ρ o).run P w = .ok (.value (.string ⟨s.toArray⟩)) w) :
 Done P ρ o w0 g0 w g K := zAg hi hk (by simp [Rel]) hx
theorem zGb {t : TypeId} {d : TypeDesc} (hu : P.underlying t = some d) (w : World) : (isAgg t).run P w = .ok (zBi d) w := by
 unfold isAgg
 rw [Sem.run_bind, run_underlying hu]
 cases d <;> rfl
theorem zAx {t : TypeId} {n : Nat} (h : szOf P t = some n) (w : World) : (Go.sizeOf t).run P w = .ok n w := by
 unfold szOf at h
 cases hi : P.info? t with
 | none => simp [hi] at h
 | some i => simp [hi] at h; simp [Go.sizeOf, typeInfo, hi, h]
theorem zCp {t : TypeId} {d : TypeDesc} (hu : P.underlying t = some d) (hd : zBi d = true) (ys : List Value) (hs : szOf P t = some ys.length) (b off : Nat)
 (h : ∀ (j : Nat) y, ys[j]? = some y → w.cell? ⟨b, off + j, none⟩ = some y) :
 (Instr.loadAt t (.pointer (some ⟨b, off, none⟩))).run P w = .ok (.agg ys.toArray) w := by
 have hl : (loadCells ⟨b, off, none⟩ ys.length).run P w = .ok ys.toArray w :=
  run_loadCells_list (P := P) w ⟨b, off, none⟩ ys (fun j v hv => by rw [Addr.add_lit]; exact h j v hv)
 simp [Instr.loadAt, Instr.sureAddr, loadVar, zGb hu, hd, zAx hs, hl]
theorem zCq {t : TypeId} {d : TypeDesc} (hu : P.underlying t = some d) (hd : zBi d = false) (y : Value) (b off : Nat)
 (h : w.cell? ⟨b, off, none⟩ = some y) :
 (Instr.loadAt t (.pointer (some ⟨b, off, none⟩))).run P w = .ok y w := by
 simp [Instr.loadAt, Instr.sureAddr, loadVar, zGb hu, hd, h]
theorem toD_rel {v : Value} {d : D} (h : toD v = some d) : Rel w g.cl d v ∧ oneC v := by
 cases v <;> simp only [toD, Option.some.injEq] at h <;> first
  | (cases h; done)
  | (subst h; simp [Rel, oneC, Value.oneCell'])
theorem zDa : ∀ {vs : List Value} {ds : List D}, toDs vs = some ds → RelL w g.cl ds vs ∧ ∀ y ∈ vs, oneC y
 | [], ds, h => by
   simp [toDs] at h; subst h; exact ⟨RelL.nil, by simp⟩
 | v :: vs, ds, h => by
   simp only [toDs] at h
   cases h1 : toD v with
   | none => simp [h1] at h
   | some d =>
     cases h2 : toDs vs with
     | none => simp [h1, h2] at h
     | some es =>
       simp [h1, h2] at h; subst h
       obtain ⟨g1, g2⟩ := toD_rel (w := w) (g := g) h1
       obtain ⟨g3, g4⟩ := zDa (vs := vs) h2
       exact ⟨RelL.cons g1 g3, by intro y hy; simp at hy; rcases hy with rfl | hy; exact g2; exact g4 y hy⟩
theorem zB6 {t : TypeId} {z : List D} (h : zCc P t = some z) : ∃ i zv, P.info? t = some i ∧ i.zero = some zv ∧ toDs zv.cells.toList = some z := by
 unfold zCc at h
 split at h
 ·rename_i i hi
  split at h
  ·rename_i zv hz; exact ⟨i, zv, hi, hz, h⟩
  ·cases h
 ·cases h
theorem blk_csq (hi : Inv w0 g0 hp w g) {b : Nat} {B : Blk} {cs : List D} (hb : hp.H[b]? = some B) (hc : B.csq = some cs) {n : Nat} (hn : g.r[b]? = some n) :
 ∃ xs e, w.heap[n]? = some (.cells xs.toArray e (0, 0)) ∧ RelL w g cs xs ∧ (∀ y ∈ xs, oneC y) ∧ (∀ (j : Nat) y, xs[j]? = some y → w.cell? ⟨n, j, none⟩ = some y) ∧
  ∀ (w' : World) (g' : Gh) (cs' : List D) (xs' : List Value), RelL w' g' cs' xs' → (∀ y ∈ xs', oneC y) → BlkRel w' g' (B.putc cs') (some (.cells xs'.toArray e (0, 0))) := by
 have hB := hi.heap.blk b _ n hb hn
 cases B with
 | cells ds =>
   simp only [Blk.csq, Option.some.injEq] at hc; subst hc
   obtain ⟨xs, e, h1, h2, h3⟩ := hB
   exact ⟨xs, e, h1, h2, h3, fun j y hj => by simp [World.cell?, h1, hj], fun w' g' cs' xs' q2 q3 => ⟨xs', e, rfl, q2, q3⟩⟩
 | tcells e ds =>
   simp only [Blk.csq, Option.some.injEq] at hc; subst hc
   obtain ⟨xs, h1, h2, h3⟩ := hB
   exact ⟨xs, e, h1, h2, h3, fun j y hj => by simp [World.cell?, h1, hj], fun w' g' cs' xs' q2 q3 => ⟨xs', rfl, q2, q3⟩⟩
 | gone => simp [Blk.csq] at hc
 | map es c => simp [Blk.csq] at hc
 | miter m s seen st => simp [Blk.csq] at hc
 | raw x => simp [Blk.csq] at hc
theorem blk_cells (hi : Inv w0 g0 hp w g) {b : Nat} {cs : List D} (hb : hp.H[b]? = some (.cells cs)) {n : Nat} (hn : g.r[b]? = some n) :
 ∃ xs e, w.heap[n]? = some (.cells xs.toArray e (0, 0)) ∧ RelL w g cs xs ∧ (∀ y ∈ xs, oneC y) ∧ ∀ (j : Nat) y, xs[j]? = some y → w.cell? ⟨n, j, none⟩ = some y := by
 obtain ⟨xs, e, h1, h2, h3⟩ := hi.heap.blk b _ n hb hn
 refine ⟨xs, e, h1, h2, h3, fun j y hj => ?_⟩
 simp [World.cell?, h1, hj]
theorem list2 {α : Type} {f : α → Value} {x y : α} {ds : List D} (h : RelL w g ds [f x, f y]) : ∃ a b, ds = [a, b] ∧ Rel w g a (f x) ∧ Rel w g b (f y) := by
 match ds, h with
 | [], h => have := h.inv_nil; cases this
 | [a], h => obtain ⟨_, _, e, _, h2⟩ := h.inv; cases e; have := h2.inv_nil; cases this
 | [a, b], h =>
   obtain ⟨_, _, e, h1, h2⟩ := h.inv; cases e
   obtain ⟨_, _, e, h3, h4⟩ := h2.inv; cases e
   exact ⟨a, b, rfl, h1, h3⟩
 | a :: b :: c :: l, h =>
   obtain ⟨_, _, e, h1, h2⟩ := h.inv; cases e
   obtain ⟨_, _, e, h3, h4⟩ := h2.inv; cases e
   obtain ⟨_, _, e, _⟩ := h4.inv; cases e
theorem list1 {α : Type} {f : α → Value} {x : α} {ds : List D} (h : RelL w g ds [f x]) : ∃ a, ds = [a] ∧ Rel w g a (f x) := by
 match ds, h with
 | [], h => have := h.inv_nil; cases this
 | [a], h => obtain ⟨_, _, e, h1, h2⟩ := h.inv; cases e; exact ⟨a, rfl, h1⟩
 | a :: b :: l, h =>
   obtain ⟨_, _, e, h1, h2⟩ := h.inv; cases e
   obtain ⟨_, _, e, _⟩ := h2.inv; cases e
theorem list3 {α : Type} {f : α → Value} {x y z : α} {ds : List D} (h : RelL w g ds [f x, f y, f z]) :
 ∃ a b c, ds = [a, b, c] ∧ Rel w g a (f x) ∧ Rel w g b (f y) ∧ Rel w g c (f z) := by
 match ds, h with
 | [], h => have := h.inv_nil; cases this
 | a :: l, h =>
   obtain ⟨_, _, e, h1, h2⟩ := h.inv; cases e
   obtain ⟨b, c, rfl, h3, h4⟩ := list2 (f := f) (x := y) (y := z) h2
   exact ⟨a, b, c, rfl, h1, h3, h4⟩
theorem snd_mv {x : Operand} (hop : o.op = .move x ∨ o.op = .assign x) (hi : Inv w0 g0 hp w g) {ds : List D} (hr : RelL w g ds [ρ x]) (h : opWp .mv ds hp K) : Done P ρ o w0 g0 w g K := by
 obtain ⟨a, rfl, ha⟩ := list1 (f := ρ) hr
 simp only [opWp] at h
 refine zAg hi h ha ?_
 rcases hop with hop | hop <;> simp [execOp, hop]
theorem snd_nck {x : Operand} (hop : o.op = .nilCheck x) (hi : Inv w0 g0 hp w g) {ds : List D} (hr : RelL w g ds [ρ x]) (h : opWp (.nck P) ds hp K) : Done P ρ o w0 g0 w g K := by
 obtain ⟨a, rfl, ha⟩ := list1 (f := ρ) hr
 have hrun : (∃ q, ρ x = .pointer (some q)) → (execOp ρ o).run P w = .ok (.value (ρ x)) w := by
  rintro ⟨q, hq⟩
  simp [execOp, hop, hq]
 simp only [opWp] at h
 obtain ⟨hk, h⟩ := h
 cases a <;> simp only [nckIs] at hk
 case ptr b off =>
  refine zAg hi h ha (hrun ?_)
  simp only [Rel] at ha
  obtain ⟨n, _, hx⟩ := ha
  exact ⟨_, hx⟩
 case ip cs =>
  refine zAg hi h ha (hrun ?_)
  simp only [Rel] at ha
  obtain ⟨q, _, hx, _⟩ := ha
  exact ⟨_, hx⟩
 case gp t n off =>
  refine zAg hi h ha (hrun ?_)
  simp only [Rel] at ha
  obtain ⟨q, _, hx, _⟩ := ha
  exact ⟨_, hx⟩
 case fn f fi ca =>
  obtain ⟨name, t, d, rfl, rfl, rfl, hm⟩ := hk
  have ha' := ha
  simp only [Rel] at ha'
  obtain ⟨xs, ys, hx, h1, h2⟩ := ha'
  obtain ⟨v, vs, rfl, h3, h4⟩ := h1.inv
  have h4 := h4.inv_nil
  subst h4
  simp only [Rel] at h3
  obtain ⟨y, rfl, _⟩ := h3
  refine zAg hi h ha ?_
  have hna : (nilAhead (P.types.size + Made.depth) t y name).run P w = .ok (some false) w := by
   obtain ⟨f', hf⟩ := Option.isSome_iff_exists.1 hm
   unfold zEt at hf
   split at hf
   case h_2 => cases hf
   rename_i i hii
   split at hf
   case h_2 => cases hf
   rename_i m hfm
   split at hf
   case h_2 => cases hf
   rename_i f2 fs hfu hpa hun
   have h0 : 0 < Made.depth := by decide
   obtain ⟨k, hk⟩ : ∃ k, P.types.size + Made.depth = k + 1 := ⟨P.types.size + Made.depth - 1, by omega⟩
   rw [hk]
   simp only [nilAhead, typeInfo, Sem.run_bind, run_program, Result.andThen_ok, hii, Sem.run_pure, hfm, hpa, followBlind, hfu, run_underlying hun]
  have harr : (List.toArray [Value.iface t y])[0]? = some (.iface t y) := rfl
  simp only [execOp, hop, hx, harr, Sem.run_bind, run_program, Result.andThen_ok, hna, Sem.run_pure]
  simp [Sem.run_pure]
theorem snd_pick {c a b : Operand} (hop : o.op = .pick c a b) (hi : Inv w0 g0 hp w g) {ds : List D} (hr : RelL w g ds [ρ c, ρ a, ρ b]) (h : opWp .pick ds hp K) : Done P ρ o w0 g0 w g K := by
 obtain ⟨x, y, z, rfl, hx, hy, hz⟩ := list3 (f := ρ) hr
 cases x <;> simp only [opWp] at h
 case bool t =>
  simp only [Rel] at hx
  cases t
  ·exact zAg hi (h.2 rfl) hz (by simp [execOp, hop, hx, asBool])
  ·exact zAg hi (h.1 rfl) hy (by simp [execOp, hop, hx, asBool])
theorem zBp (s : List UInt8) : (ByteArray.mk s.toArray).toList = s := ByteArray.toList_mk s
theorem zF7 (s : List UInt8) : (ByteArray.mk s.toArray).size = s.length := by simp [ByteArray.size]
theorem append_str (s t : List UInt8) : (ByteArray.mk s.toArray) ++ (ByteArray.mk t.toArray) = ByteArray.mk (s ++ t).toArray := by
 apply ByteArray.ext
 simp
theorem snd_bin {op : BinOp} {t u : TypeId} {x y : Operand} (hop : o.op = .binOp op t x y u) (hi : Inv w0 g0 hp w g) {ds : List D} (hr : RelL w g ds [ρ x, ρ y]) (h : opWp (.bin op) ds hp K) : Done P ρ o w0 g0 w g K := by
 obtain ⟨a, b, rfl, ha, hb⟩ := list2 (f := ρ) hr
 simp only [opWp] at h
 unfold binWp at h
 split at h <;> first
  | exact h.elim
  | skip
 all_goals simp only [Rel] at ha hb
 case h_1 => obtain ⟨rfl, h⟩ := h; exact zAz hi h (by simp [execOp, hop, ha, hb, eqGuard_at_int, binOp_add, Op.intArith])
 case h_2 => obtain ⟨rfl, h⟩ := h; exact zAz hi h (by simp [execOp, hop, ha, hb, eqGuard_at_int, binOp_sub, Op.intArith])
 case h_3 => obtain ⟨rfl, h⟩ := h; exact zAz hi h (by simp [execOp, hop, ha, hb, eqGuard_at_int, binOp_mul, Op.intArith])
 case h_4 => obtain ⟨rfl, h0, h⟩ := h; exact zAz hi h (by simp [execOp, hop, ha, hb, eqGuard_at_int, binOp_quo, Op.intDiv, h0])
 case h_5 => obtain ⟨rfl, h0, h⟩ := h; exact zAz hi h (by simp [execOp, hop, ha, hb, eqGuard_at_int, binOp_rem, Op.intDiv, h0])
 case h_6 => obtain ⟨rfl, h⟩ := h; exact zAz hi h (by simp [execOp, hop, ha, hb, eqGuard_at_int, binOp_and, intBits_and, bitsV])
 case h_7 => obtain ⟨rfl, h⟩ := h; exact zAz hi h (by simp [execOp, hop, ha, hb, eqGuard_at_int, binOp_or, intBits_or, bitsV])
 case h_8 => obtain ⟨rfl, h⟩ := h; exact zAz hi h (by simp [execOp, hop, ha, hb, eqGuard_at_int, binOp_xor, intBits_xor, bitsV])
 case h_9 => obtain ⟨rfl, h⟩ := h; exact zAz hi h (by simp [execOp, hop, ha, hb, eqGuard_at_int, binOp_andNot, intBits_andNot, bitsV])
 case h_10 => obtain ⟨h0, h⟩ := h; exact zAz hi h (by simp [execOp, hop, ha, hb, eqGuard_at_int, binOp_shl, Op.shift, Int.not_lt.2 h0])
 case h_11 => obtain ⟨h0, h⟩ := h; exact zAz hi h (by simp [execOp, hop, ha, hb, eqGuard_at_int, binOp_shr, Op.shift, Int.not_lt.2 h0])
 case h_12 => obtain ⟨rfl, h⟩ := h; exact zA5 hi h (by simp [execOp, hop, ha, hb, eqGuard_at_int, binOp_eql])
 case h_13 => obtain ⟨rfl, h⟩ := h; exact zA5 hi h (by simp [execOp, hop, ha, hb, eqGuard_at_int, binOp_neq])
 case h_14 => obtain ⟨rfl, h⟩ := h; exact zA5 hi h (by simp [execOp, hop, ha, hb, eqGuard_at_int, binOp_lss])
 case h_15 => obtain ⟨rfl, h⟩ := h; exact zA5 hi h (by simp [execOp, hop, ha, hb, eqGuard_at_int, binOp_leq])
 case h_16 => obtain ⟨rfl, h⟩ := h; exact zA5 hi h (by simp [execOp, hop, ha, hb, eqGuard_at_int, binOp_gtr])
 case h_17 => obtain ⟨rfl, h⟩ := h; exact zA5 hi h (by simp [execOp, hop, ha, hb, eqGuard_at_int, binOp_geq])
 case h_18 =>
  obtain ⟨h0, h⟩ := h
  refine zDl hi h ?_
  simp only [execOp, hop, ha, hb, eqGuard_at_string, binOp_string_add, Op.stringOp, append_str, zF7]
  rw [if_neg (by simp [IntKind.max_i64]; omega)]
  simp
 case h_19 => exact zA5 hi h (by simp [execOp, hop, ha, hb, eqGuard_at_string, binOp, Op.stringOp, zBp])
 case h_20 => exact zA5 hi h (by simp [execOp, hop, ha, hb, eqGuard_at_string, binOp, Op.stringOp, zBp])
 case h_21 => exact zA5 hi h (by simp [execOp, hop, ha, hb, eqGuard_at_string, binOp, Op.stringOp, zBp])
 case h_22 => exact zA5 hi h (by simp [execOp, hop, ha, hb, eqGuard_at_string, binOp, Op.stringOp, zBp])
 case h_23 => exact zA5 hi h (by simp [execOp, hop, ha, hb, eqGuard_at_string, binOp, Op.stringOp, zBp])
 case h_24 => exact zA5 hi h (by simp [execOp, hop, ha, hb, eqGuard_at_string, binOp, Op.stringOp, zBp])
end
end GoV
end
section
set_option linter.unusedSimpArgs false
set_option maxHeartbeats 1000000
namespace GoV
open Go
section
variable {P : Program} {ρ : Operand → Value} {o : Oper} {w0 : World} {g0 : Gh} {hp : Hp} {w : World} {g : Gh} {K : D → Hp → Prop}
theorem snd_eqB {neg : Bool} {t u : TypeId} {x y : Operand} (hop : o.op = .binOp (if neg then .neq else .eql) t x y u) (hu : P.underlying t = some .bool)
 (hi : Inv w0 g0 hp w g) {ds : List D} (hr : RelL w g ds [ρ x, ρ y]) (h : opWp (.eqB neg) ds hp K) : Done P ρ o w0 g0 w g K := by
 obtain ⟨a, b, rfl, ha, hb⟩ := list2 (f := ρ) hr
 cases a <;> cases b <;> simp only [opWp] at h
 case bool.bool p q =>
  simp only [Rel] at ha hb
  refine zA5 hi h ?_
  cases neg <;> simp [execOp, hop, ha, hb, eqGuard_at_bool, binOp, Op.equal, Op.maxDepth, run_equalIn_bool' w _ t _ _ hu]
theorem run_nil (w : World) (d : Nat) {t e : TypeId} (h : P.underlying t = some (.slice e)) (a : Option Addr) (n c : Nat) : (Op.equalIn (d + 1) t (.slice a n c) (.slice none 0 0)).run P w = .ok a.isNone w := by
 cases a <;> simp [Op.equalIn, run_underlying h]
theorem snd_eqN {neg : Bool} {t u e : TypeId} {x y : Operand} (hop : o.op = .binOp (if neg then .neq else .eql) t x y u) (hu : P.underlying t = some (.slice e))
 (hi : Inv w0 g0 hp w g) {ds : List D} (hr : RelL w g ds [ρ x, ρ y]) (h : opWp (.eqN neg .sl) ds hp K) : Done P ρ o w0 g0 w g K := by
 obtain ⟨a, b, rfl, ha, hb⟩ := list2 (f := ρ) hr
 simp only [opWp, eqkWp] at h
 obtain ⟨rfl, h⟩ := h
 simp only [Rel] at hb
 have key : ∀ (p : Option Addr) (n c : Nat), ρ x = .slice p n c → K (.bool (if neg then !p.isNone else p.isNone)) hp → Done P ρ o w0 g0 w g K := by
  intro p n c hx hk
  refine zA5 hi hk ?_
  cases neg <;> simp [execOp, hop, hx, hb.1, eqGuard, binOp, Op.equal, Op.maxDepth, run_nil w 9999 hu]
 unfold eqnWp at h
 split at h
 ·simp only [Rel] at ha
  exact key none 0 0 ha.1 (by cases neg <;> exact h)
 ·simp only [Rel] at ha
  obtain ⟨q, cap, _, _, hx, _⟩ := ha
  rcases hx with hx | ⟨hx, _⟩
  ·exact key (some q) _ cap hx (h _)
  ·exact key none 0 0 hx (h _)
 ·simp only [Rel] at ha
  obtain ⟨q, cap, _, _, hx, _⟩ := ha
  rcases hx with hx | ⟨_, hx, _⟩
  ·exact key (some q) _ cap hx (by cases neg <;> exact h)
  ·cases hx
 ·simp only [Rel] at ha
  obtain ⟨n, o', _, hx, _⟩ := ha
  exact key _ _ _ hx (by cases neg <;> exact h)
 ·exact h.elim
theorem run_nilP (w : World) (d : Nat) {t e : TypeId} (h : P.underlying t = some (.pointer e)) (a : Option Addr) : (Op.equalIn (d + 1) t (.pointer a) (.pointer none)).run P w = .ok a.isNone w := by
 cases a <;> simp [Op.equalIn, run_underlying h]
theorem snd_eqP {neg : Bool} {t u e : TypeId} {x y : Operand} (hop : o.op = .binOp (if neg then .neq else .eql) t x y u) (hu : P.underlying t = some (.pointer e))
 (hi : Inv w0 g0 hp w g) {ds : List D} (hr : RelL w g ds [ρ x, ρ y]) (h : opWp (.eqN neg .ptr) ds hp K) : Done P ρ o w0 g0 w g K := by
 obtain ⟨a, b, rfl, ha, hb⟩ := list2 (f := ρ) hr
 simp only [opWp, eqkWp] at h
 obtain ⟨rfl, h⟩ := h
 simp only [Rel] at hb
 have key : ∀ (p : Option Addr), ρ x = .pointer p → K (.bool (if neg then !p.isNone else p.isNone)) hp → Done P ρ o w0 g0 w g K := by
  intro p hx hk
  refine zA5 hi hk ?_
  cases neg <;> simp [execOp, hop, hx, hb.1, eqGuard, binOp, Op.equal, Op.maxDepth, run_nilP w 9999 hu]
 unfold eqpWp at h
 split at h
 ·simp only [Rel] at ha
  exact key none ha.1 (by cases neg <;> exact h)
 ·simp only [Rel] at ha
  obtain ⟨n, _, hx⟩ := ha
  exact key _ hx (by cases neg <;> exact h)
 iterate 2
  ·simp only [Rel] at ha
   obtain ⟨q, _, hx, _⟩ := ha
   exact key _ hx (by cases neg <;> exact h)
 ·exact h.elim
theorem run_nilI (w : World) (d : Nat) {t : TypeId} {ms} (h : P.underlying t = some (.interface ms)) : (Op.equalIn (d + 1) t .nilIface .nilIface).run P w = .ok true w := by
 simp [Op.equalIn, run_underlying h]
theorem run_nilI' (w : World) (d : Nat) {t : TypeId} {ms} (h : P.underlying t = some (.interface ms)) (e : TypeId) (y : Value) : (Op.equalIn (d + 1) t (.iface e y) .nilIface).run P w = .ok false w := by
 simp [Op.equalIn, run_underlying h]
theorem snd_eqI {neg : Bool} {t u : TypeId} {ms} {x y : Operand} (hop : o.op = .binOp (if neg then .neq else .eql) t x y u) (hu : P.underlying t = some (.interface ms)) (hc : ∃ v, y = Operand.const v)
 (hi : Inv w0 g0 hp w g) {ds : List D} (hr : RelL w g ds [ρ x, ρ y]) (h : opWp (.eqN neg .ifc) ds hp K) : Done P ρ o w0 g0 w g K := by
 obtain ⟨cv, rfl⟩ := hc
 obtain ⟨a, b, rfl, ha, hb⟩ := list2 (f := ρ) hr
 simp only [opWp, eqkWp] at h
 obtain ⟨rfl, h⟩ := h
 simp only [Rel] at hb
 unfold eqiWp at h
 split at h
 ·simp only [Rel] at ha
  refine zA5 hi h ?_
  cases neg <;> simp [execOp, hop, ha.1, hb.1, eqGuard, binOp, Op.equal, Op.maxDepth, run_nilI w 9999 hu]
 ·simp only [Rel] at ha
  obtain ⟨q, hx, _⟩ := ha
  refine zA5 hi h ?_
  cases neg <;> simp [execOp, hop, hx, hb.1, eqGuard, binOp, Op.equal, Op.maxDepth, run_nilI' w 9999 hu]
 ·exact h.elim
theorem zDe {t : TypeId} {d : TypeDesc} (hu : P.underlying t = some d) (hd : zBi d = false) (cs : Array Value) (n : Nat) (v : Value) (hv : cs[n]? = some v) (w : World) :
 (part t cs n).run P w = .ok v w := by
 simp [part, zGb hu, hd, hv]
theorem zDd {t : TypeId} {d : TypeDesc} {n : Nat} (hu : P.underlying t = some d) (hd : zBi d = true) (hs : szOf P t = some n) (cs : Array Value) (off : Nat) (w : World) :
 (part t cs off).run P w = .ok (.agg (cs.extract off (off + n))) w := by
 simp [part, zGb hu, hd, zAx hs]
theorem eqD_run {e : EK} {d d' : D} {x y : Value} {b : Bool} {t : TypeId} {m : Nat} (hk : match e with | .int => ∃ k, P.underlying t = some (.int k) | .bool => P.underlying t = some .bool | .str => P.underlying t = some .string)
 (h : eqD e d d' = some b) (h1 : Rel w g d x) (h2 : Rel w g d' y) (w1 : World) : (Op.equalIn (m + 1) t x y).run P w1 = .ok b w1 := by
 cases e <;> cases d <;> simp only [eqD] at h <;> first
  | (cases h; done)
  | skip
 case int.int =>
  cases d' <;> simp only [eqD] at h <;> first
   | (cases h; done)
   | skip
  obtain ⟨k, hk⟩ := hk
  simp only [Rel] at h1 h2
  split at h
  ·rename_i e; subst e
   simp at h; subst h; subst h1; subst h2
   exact run_equalIn_int w1 m t _ _ _ _ hk
  ·cases h
 case bool.bool =>
  cases d' <;> simp only [eqD] at h <;> first
   | (cases h; done)
   | skip
  simp only [Rel] at h1 h2
  simp at h; subst h; subst h1; subst h2
  exact run_equalIn_bool' w1 m t _ _ hk
 case str.str =>
  cases d' <;> simp only [eqD] at h <;> first
   | (cases h; done)
   | skip
  simp only [Rel] at h1 h2
  simp only [Option.some.injEq] at h; subst h; subst h1; subst h2
  rw [run_equalIn_string w1 m t _ _ hk, zBp, zBp]
theorem eqDs_app : ∀ (ks r : List EK) (ds ds' : List D) (b : Bool), eqDs (ks ++ r) ds ds' = some b →
 ∃ b1 b2, eqDs ks (ds.take ks.length) (ds'.take ks.length) = some b1 ∧ eqDs r (ds.drop ks.length) (ds'.drop ks.length) = some b2 ∧ b = (b1 && b2) ∧ ks.length ≤ ds.length ∧ ks.length ≤ ds'.length
 | [], r, ds, ds', b, h => ⟨true, b, by simp [eqDs], by simpa using h, by simp, by simp, by simp⟩
 | e :: ks, r, ds, ds', b, h => by
   cases ds with
   | nil => simp [eqDs] at h
   | cons x xs =>
     cases ds' with
     | nil => simp [eqDs] at h
     | cons y ys =>
       simp only [List.cons_append, eqDs] at h
       cases e1 : eqD e x y with
       | none => simp [e1] at h
       | some a =>
         cases e2 : eqDs (ks ++ r) xs ys with
         | none => simp [e1, e2] at h
         | some b' =>
           simp [e1, e2] at h
           obtain ⟨b1, b2, h1, h2, h3, h4, h5⟩ := eqDs_app ks r xs ys b' e2
           exact ⟨a && b1, b2, by simp [eqDs, e1, h1], by simpa using h2, by rw [← h, h3, Bool.and_assoc], by simpa using h4, by simpa using h5⟩
theorem zCu {m : Nat} : ∀ (d : Nat) (M : Nat) (_ : d ≤ M) {xs ys : List Value} (fs : List Field) (n : Nat) (ks : List EK) (ds ds' : List D) (b : Bool), zCb P d n fs = some ks →
 eqDs ks ds ds' = some b → RelL w g ds (xs.drop n) → RelL w g ds' (ys.drop n) → ∀ w1 : World, (Op.eqFields (m + M + 1) xs.toArray ys.toArray fs).run P w1 = .ok b w1
 | 0, _, _, _, _, _, _, _, _, _, _, hk, _, _, _, _ => by simp [zCb] at hk
 | d + 1, _, _, _, _, [], n, ks, ds, ds', b, hk, hb, _, _, w1 => by
   simp [zCb] at hk; subst hk
   cases ds <;> cases ds' <;> simp [eqDs] at hb
   subst hb; simp [Op.eqFields]
 | d + 1, 0, hdM, _, _, f :: fs, n, ks, ds, ds', b, hk, hb, h1, h2, w1 => by omega
 | d + 1, M + 1, hdM, xs, ys, f :: fs, n, ks, ds, ds', b, hk, hb, h1, h2, w1 => by
   simp only [zCb] at hk
   split at hk
   case isFalse => cases hk
   rename_i hf
   obtain ⟨hf1, hf2⟩ := hf
   have leaf : ∀ (e : EK) (r1 : List EK) (dd : TypeDesc), ks = e :: r1 → P.underlying f.type = some dd → zCb P d (n + 1) fs = some r1 → zBi dd = false →
    (match e with | EK.int => ∃ k, P.underlying f.type = some (.int k) | .bool => P.underlying f.type = some .bool | .str => P.underlying f.type = some .string) →
    (Op.eqFields (m + (M + 1) + 1) xs.toArray ys.toArray (f :: fs)).run P w1 = .ok b w1 := by
    intro e r1 dd hks hu hrest hd hkk
    subst hks
    cases ds with
    | nil => simp [eqDs] at hb
    | cons x xs' =>
      cases ds' with
      | nil => simp [eqDs] at hb
      | cons y ys' =>
        simp only [eqDs] at hb
        cases e1 : eqD e x y with
        | none => simp [e1] at hb
        | some a =>
          cases e2 : eqDs r1 xs' ys' with
          | none => simp [e1, e2] at hb
          | some b' =>
            simp [e1, e2] at hb
            obtain ⟨u, us, hu1, hu2, hu3⟩ := h1.inv
            obtain ⟨v, vs, hv1, hv2, hv3⟩ := h2.inv
            have hx : xs[n]? = some u := by have := congrArg (·[0]?) hu1; simpa using this
            have hy : ys[n]? = some v := by have := congrArg (·[0]?) hv1; simpa using this
            have hxs : xs.drop (n + 1) = us := by have := congrArg List.tail hu1; simpa using this
            have hys : ys.drop (n + 1) = vs := by have := congrArg List.tail hv1; simpa using this
            have he := eqD_run (P := P) (w := w) (g := g) (m := m + (M + 1)) hkk e1 hu2 hv2
            have p1 := fun w1 => zDe (P := P) hu hd xs.toArray n u (by simpa using hx) w1
            have p2 := fun w1 => zDe (P := P) hu hd ys.toArray n v (by simpa using hy) w1
            have ih := zCu (m := m) d (M + 1) (by omega) fs (n + 1) r1 xs' ys' b' hrest e2 (by rw [hxs]; exact hu3) (by rw [hys]; exact hv3) w1
            simp only [Op.eqFields, hf1, ne_eq, hf2, not_false_eq_true, if_true, Sem.run_bind, p1, p2, Result.andThen_ok, he, Sem.run_ite, ih]
            cases a <;> simp at hb ⊢ <;> exact hb
   split at hk
   case h_5 => cases hk
   case h_1 k hu =>
    obtain ⟨r1, hr, rfl⟩ := Option.map_eq_some_iff.1 hk
    exact leaf .int r1 _ rfl hu hr rfl ⟨_, hu⟩
   case h_2 hu =>
    obtain ⟨r1, hr, rfl⟩ := Option.map_eq_some_iff.1 hk
    exact leaf .bool r1 _ rfl hu hr rfl hu
   case h_3 hu =>
    obtain ⟨r1, hr, rfl⟩ := Option.map_eq_some_iff.1 hk
    exact leaf .str r1 _ rfl hu hr rfl hu
   case h_4 gs hu =>
    split at hk
    case h_2 => cases hk
    rename_i k1 hk1
    split at hk
    case isFalse => cases hk
    rename_i hst
    obtain ⟨hst1, hsz⟩ := hst
    obtain ⟨r1, hr, rfl⟩ := Option.map_eq_some_iff.1 hk
    obtain ⟨b1, b2, q1, q2, rfl, l1, l2⟩ := eqDs_app k1 r1 ds ds' b hb
    have hfo : P.fieldsOf f.type = gs := by simp [Program.fieldsOf, hu]
    have p1 := fun w1 => zDd (P := P) hu rfl hsz xs.toArray n w1
    have p2 := fun w1 => zDd (P := P) hu rfl hsz ys.toArray n w1
    have hx1 : (xs.toArray.extract n (n + k1.length)) = ((xs.drop n).take k1.length).toArray := by
     apply Array.ext'; simp [List.take_drop]
    have hy1 : (ys.toArray.extract n (n + k1.length)) = ((ys.drop n).take k1.length).toArray := by
     apply Array.ext'; simp [List.take_drop]
    have hin := zCu (m := m) (xs := (xs.drop n).take k1.length) (ys := (ys.drop n).take k1.length) d M (by omega) gs.toList 0 k1 _ _ b1 hk1 q1 (by simpa using h1.take k1.length) (by simpa using h2.take k1.length)
    have hst' := fun w1 => run_equalIn_struct (P := P) w1 (m + M + 1) f.type ((xs.drop n).take k1.length).toArray ((ys.drop n).take k1.length).toArray (by rw [hfo]; exact hu) hst1
    have ih := zCu (m := m) d (M + 1) (by omega) fs (n + k1.length) r1 _ _ b2 hr q2 (by rw [← List.drop_drop]; exact h1.drop k1.length) (by rw [← List.drop_drop]; exact h2.drop k1.length) w1
    simp only [Op.eqFields, hf1, ne_eq, hf2, not_false_eq_true, if_true, Sem.run_bind, p1, p2, hx1, hy1, Result.andThen_ok, Sem.run_ite, ih]
    rw [show m + (M + 1) + 1 = (m + M + 1) + 1 by omega, hst', hfo, hin]
    simp only [Result.andThen_ok]
    rw [show m + M + 1 + 1 = m + (M + 1) + 1 by omega, ih]
    cases b1 <;> simp
theorem snd_eqA {neg : Bool} {t u : TypeId} {x y : Operand} {fs : Array Field} {ks : List EK} (hop : o.op = .binOp (if neg then .neq else .eql) t x y u) (hu : P.underlying t = some (.struct fs))
 (hst : P.stoodInHeld t = false) (hg : P.eqGuardType P.depth t = false) (hks : zCb P 40 0 fs.toList = some ks)
 (hi : Inv w0 g0 hp w g) {ds : List D} (hr : RelL w g ds [ρ x, ρ y]) (h : opWp (.eqA neg ks) ds hp K) : Done P ρ o w0 g0 w g K := by
 obtain ⟨a, b, rfl, ha, hb⟩ := list2 (f := ρ) hr
 cases a <;> cases b <;> simp only [opWp] at h
 case agg.agg p q =>
  obtain ⟨c, hc, h⟩ := h
  simp only [Rel] at ha hb
  obtain ⟨xs, hx, rx, _⟩ := ha
  obtain ⟨ys, hy, ry, _⟩ := hb
  have hfo : P.fieldsOf t = fs := by simp [Program.fieldsOf, hu]
  have hrun := zCu (P := P) (m := 9958) (w := w) (g := g) (xs := xs) (ys := ys) 40 40 (Nat.le_refl _) fs.toList 0 ks p q c hks hc (by simpa using rx) (by simpa using ry) w
  have hst' := run_equalIn_struct (P := P) w 9999 t xs.toArray ys.toArray (by rw [hfo]; exact hu) hst
  rw [hfo, hrun] at hst'
  refine zA5 hi h ?_
  cases neg
  ·simp [execOp, hop, hx, hy, run_eqGuard_agg (P := P) w .eql t x y xs.toArray ys.toArray hg, run_eql_struct, hst']
  ·simp [execOp, hop, hx, hy, run_eqGuard_agg (P := P) w .neq t x y xs.toArray ys.toArray hg, run_neq_struct, hst']
theorem snd_un {op : UnOp} {t : TypeId} {x : Operand} (hop : o.op = .unOp op t x) (hi : Inv w0 g0 hp w g) {ds : List D} (hr : RelL w g ds [ρ x]) (h : opWp (.un op) ds hp K) : Done P ρ o w0 g0 w g K := by
 obtain ⟨a, rfl, ha⟩ := list1 (f := ρ) hr
 simp only [opWp] at h
 unfold unWp at h
 split at h <;> first
  | exact h.elim
  | skip
 all_goals simp only [Rel] at ha
 ·exact zAz hi h (by simp [execOp, hop, ha, Op.unary, Op.intArith])
 ·refine zAz hi h ?_
  simp only [execOp, hop, ha, Op.unary, intBits_xor]
  rfl
 ·exact zA5 hi h (by simp [execOp, hop, ha, Op.unary])
theorem snd_cvI {s t : TypeId} {x : Operand} {k k' : IntKind} (hop : o.op = .convert s t x) (hs : P.underlying s = some (.int k')) (ht : P.underlying t = some (.int k))
 (hi : Inv w0 g0 hp w g) {ds : List D} (hr : RelL w g ds [ρ x]) (h : opWp (.cvI k) ds hp K) : Done P ρ o w0 g0 w g K := by
 obtain ⟨a, rfl, ha⟩ := list1 (f := ρ) hr
 cases a <;> simp only [opWp] at h
 case int k2 n =>
  simp only [Rel] at ha
  refine zAz hi h ?_
  simp [execOp, hop, ha, convert, run_underlying hs, run_underlying ht, Conv.intToInt]
theorem done_new (hi : Inv w0 g0 hp w g) {cs : List D} {xs : List Value} {e : TypeId} (hr : RelL w g cs xs) (h1 : ∀ y ∈ xs, oneC y)
 (hk : K (.ptr hp.H.length 0) { hp with H := hp.H ++ [.cells cs] })
 (hx : (execOp ρ o).run P w = .ok (.value (.pointer (some ⟨w.heap.size, 0, none⟩))) (w.alloc (.cells xs.toArray e (0, 0)))) : Done P ρ o w0 g0 w g K := by
 obtain ⟨hi', he⟩ := hi.newBlk (.cells cs) (.cells xs.toArray e (0, 0)) fun w' g' he => ⟨xs, e, rfl, RelL.evo cs he hr, h1⟩
 refine ⟨_, _, _, _, _, hk, hi', he, ?_, .inl hx⟩
 simp only [Rel]
 refine ⟨w.heap.size, ?_, rfl⟩
 rw [hi.heap.len, List.getElem?_append_right (Nat.le_refl _)]
 simp
theorem snd_newb {t : TypeId} {z : List D} (hop : o.op = .alloc t) (hz : zCc P t = some z) (hi : Inv w0 g0 hp w g) (h : opWp (.newb z) [] hp K) : Done P ρ o w0 g0 w g K := by
 obtain ⟨i, zv, h1, h2, h3⟩ := zB6 hz
 obtain ⟨g1, g2⟩ := zDa (w := w) (g := g) h3
 simp only [opWp] at h
 refine done_new (e := t) hi g1.any g2 h ?_
 simp [execOp, hop, Instr.alloc, zeroValue, typeInfo, h1, h2, newVar, newRow]
theorem snd_newT {t : TypeId} {z : List D} (hop : o.op = .alloc t) (hz : zCc P t = some z) (hi : Inv w0 g0 hp w g) (h : opWp (.newT t z) [] hp K) : Done P ρ o w0 g0 w g K := by
 obtain ⟨i, zv, h1, h2, h3⟩ := zB6 hz
 obtain ⟨g1, g2⟩ := zDa (w := w) (g := g) h3
 simp only [opWp] at h
 obtain ⟨hi', he⟩ := hi.newBlk (.tcells t z) (.cells zv.cells.toList.toArray t (0, 0)) fun w' g' he => ⟨zv.cells.toList, rfl, RelL.evo z he g1.any, g2⟩
 refine ⟨_, _, _, .pointer (some ⟨w.heap.size, 0, none⟩), _, h, hi', he, ?_, .inl ?_⟩
 ·simp only [Rel]
  refine ⟨w.heap.size, ?_, rfl⟩
  rw [hi.heap.len, List.getElem?_append_right (Nat.le_refl _)]
  simp
 ·simp [execOp, hop, Instr.alloc, zeroValue, typeInfo, h1, h2, newVar, newRow]
theorem snd_box {t : TypeId} {x : Operand} (hop : o.op = .box t x) (hi : Inv w0 g0 hp w g) {ds : List D} (hr : RelL w g ds [ρ x]) (h : opWp .box ds hp K) : Done P ρ o w0 g0 w g K := by
 obtain ⟨a, rfl, ha⟩ := list1 (f := ρ) hr
 simp only [opWp] at h
 obtain ⟨hv, h⟩ := h
 obtain ⟨g1, g2⟩ := ha.cells hv
 refine done_new (e := t) hi g1 g2 h ?_
 simp [execOp, hop, Instr.box, newVar, newRow]
theorem snd_mkI {t : TypeId} {x : Operand} (hop : o.op = .makeInterface t x) (hc : P.concrete t = true) (hi : Inv w0 g0 hp w g) {ds : List D} (hr : RelL w g ds [ρ x]) (h : opWp (.mkI t) ds hp K) : Done P ρ o w0 g0 w g K := by
 obtain ⟨a, rfl, ha⟩ := list1 (f := ρ) hr
 simp only [opWp] at h
 exact zAg hi h (v := .iface t (ρ x)) (by simp only [Rel]; exact ⟨_, rfl, ha⟩) (by simp [execOp, hop, run_makeInterface (P := P) w t _ hc])
theorem snd_mkF {f : Fn} {first cap : Array Operand} (hop : o.op = .makeFunc f first cap) (hi : Inv w0 g0 hp w g) {ds : List D} (hr : RelL w g ds ((first.toList ++ cap.toList).map ρ)) (h : opWp (.mkF f first.size) ds hp K) : Done P ρ o w0 g0 w g K := by
 simp only [opWp] at h
 rw [List.map_append] at hr
 have h1 := hr.take first.size
 have h2 := hr.drop first.size
 rw [show first.size = (first.toList.map ρ).length by simp] at h1 h2
 simp only [List.take_left, List.drop_left] at h1 h2
 refine zAg hi h (v := .func f (first.map ρ) (cap.map ρ)) ?_ (by simp [execOp, hop, Instr.makeFunc])
 simp only [Rel]
 refine ⟨first.toList.map ρ, cap.toList.map ρ, by rw [← Array.toList_map, ← Array.toList_map, Array.toArray_toList, Array.toArray_toList], ?_, ?_⟩
 ·simpa using h1
 ·simpa using h2
theorem snd_ext {x : Operand} {i : Nat} (hop : o.op = .extract x i) (hi : Inv w0 g0 hp w g) {ds : List D} (hr : RelL w g ds [ρ x]) (h : opWp (.ext i) ds hp K) : Done P ρ o w0 g0 w g K := by
 obtain ⟨a, rfl, ha⟩ := list1 (f := ρ) hr
 cases a <;> simp only [opWp] at h
 case tup vs =>
  obtain ⟨hl, h⟩ := h
  simp only [Rel] at ha
  obtain ⟨xs, hx, hr2⟩ := ha
  obtain ⟨v, hv, _⟩ := hr2.get (List.getElem?_eq_getElem hl)
  refine zAg hi h (hr2.getD hv) ?_
  simp [execOp, hop, Instr.extract, hx, hv]
end
end GoV
end
section
set_option linter.unusedSimpArgs false
set_option maxHeartbeats 1000000
namespace GoV
open Go
section
variable {P : Program} {ρ : Operand → Value} {o : Oper} {w0 : World} {g0 : Gh} {hp : Hp} {w : World} {g : Gh} {K : D → Hp → Prop}
theorem foldl_set : ∀ (vs : List Value) (cs : Array Value) (n off : Nat),
 ((vs.zipIdx n).foldl (fun cs (p : Value × Nat) => cs.setIfInBounds (off + p.2) p.1) cs).toList = setV cs.toList (off + n) vs
 | [], _, _, _ => rfl
 | v :: vs, cs, n, off => by
   simp only [List.zipIdx_cons, List.foldl_cons, setV]
   rw [foldl_set vs _ (n + 1) off]
   simp [Nat.add_assoc]
theorem fill_sound {place : Nat → Option (Nat × Nat)} : ∀ (ps : List (Nat × Nat)) (is : List Nat) (ds : List D) (vs : List Value) (cs cs' : List D) (xs : Array Value),
 fillL cs ps ds = some cs' → is.map place = ps.map some → RelL w g ds vs → RelL w g cs xs.toList → (∀ y ∈ xs.toList, oneC y) →
 ∃ ys, Instr.fill place xs (is.zip vs) = some ys ∧ RelL w g cs' ys.toList ∧ ∀ y ∈ ys.toList, oneC y
 | [], is, ds, vs, cs, cs', xs, hf, hp, hr, hc, ho => by
   cases ds with
   | cons d ds => simp [fillL] at hf
   | nil =>
     simp [fillL] at hf; subst hf
     have : is = [] := by simpa using hp
     subst this
     exact ⟨xs, by simp [Instr.fill], hc, ho⟩
 | (off, n) :: ps, is, ds, vs, cs, cs', xs, hf, hp, hr, hc, ho => by
   cases ds with
   | nil => simp [fillL] at hf
   | cons d ds =>
     cases is with
     | nil => simp at hp
     | cons i is =>
       simp only [List.map_cons, List.cons.injEq] at hp
       obtain ⟨hp1, hp2⟩ := hp
       obtain ⟨v, vs', rfl, hv, hvs⟩ := hr.inv
       simp only [fillL] at hf
       split at hf
       case isFalse => cases hf
       rename_i hc3
       obtain ⟨c1, c2, c3⟩ := hc3
       obtain ⟨g1, g2⟩ := hv.cells c1
       have hsz : v.cells.size = n := by rw [hv.cells_size c1, c2]
       have hlen : cs.length = xs.size := by have := hc.length; simp at this; omega
       have hstep : (v.cells.zipIdx.foldl (fun cs (p : Value × Nat) => cs.setIfInBounds (off + p.2) p.1) xs).toList = setV xs.toList off v.cells.toList := by
        have := foldl_set v.cells.toList xs 0 off
        rw [← Array.foldl_toList]
        simpa using this
       obtain ⟨ys, e1, e2, e3⟩ := fill_sound ps is ds vs' _ cs' (v.cells.zipIdx.foldl (fun cs (p : Value × Nat) => cs.setIfInBounds (off + p.2) p.1) xs) hf hp2 hvs
        (by rw [hstep]; exact hc.setL off g1) (by rw [hstep]; exact zFe _ _ _ _ ho g2)
       refine ⟨ys, ?_, e2, e3⟩
       simp only [List.zip_cons_cons, Instr.fill, hp1]
       rw [if_neg (by simp; omega)]
       exact e1
theorem pick_map {ps : List (Nat × Nat)} : ∀ (is : List Nat) (q : List (Nat × Nat)), pick ps is = some q → is.map (fun i => ps.toArray[i]?) = q.map some
 | [], q, h => by simp [pick] at h; subst h; rfl
 | i :: is, q, h => by
   simp only [pick] at h
   split at h
   ·rename_i p r h1 h2
    simp at h; subst h
    simpa [h1] using pick_map is r h2
   ·cases h
theorem snd_bld {t : TypeId} {parts : Array (Nat × Operand)} {z : List D} {q : List (Nat × Nat)} (hop : o.op = .build t parts) (hz : zCc P t = some z)
 (hq : (∃ fs ps, P.underlying t = some (.struct fs) ∧ places P fs.toList = some ps ∧ pick ps (parts.toList.map (·.1)) = some q) ∨
  (∃ n e k, P.underlying t = some (.array n e) ∧ szOf P e = some k ∧ q = parts.toList.map fun p => (p.1 * k, k)))
 (hi : Inv w0 g0 hp w g) {ds : List D} (hr : RelL w g ds ((parts.toList.map (·.2)).map ρ)) (h : opWp (.bld z q) ds hp K) : Done P ρ o w0 g0 w g K := by
 simp only [opWp] at h
 obtain ⟨cs, hf, h⟩ := h
 obtain ⟨i, zv, h1, h2, h3⟩ := zB6 hz
 obtain ⟨g1, g2⟩ := zDa (w := w) (g := g) h3
 have hzip : (parts.map fun (i, x) => (i, ρ x)).toList = (parts.toList.map (·.1)).zip ((parts.toList.map (·.2)).map ρ) := by
  rw [Array.toList_map]
  generalize parts.toList = l
  induction l with
  | nil => rfl
  | cons a l ih => simp [ih]
 have fin : ∀ place, (parts.toList.map (·.1)).map place = q.map some → Instr.fill place zv.cells ((parts.map fun (i, x) => (i, ρ x)).toList) = P.built t ((parts.map fun (i, x) => (i, ρ x)).toList) → Done P ρ o w0 g0 w g K := by
  intro place hpl hb
  obtain ⟨ys, e1, e2, e3⟩ := fill_sound (w := w)  q _ ds _ z cs zv.cells hf hpl hr g1.any g2
  rw [← hzip, hb] at e1
  refine zAg hi h (v := .agg ys) ?_ ?_
  ·simp only [Rel]; exact ⟨ys.toList, by simp, e2, e3⟩
  ·simp [execOp, hop, run_build w t _ ys e1]
 rcases hq with ⟨fs, ps, hu, hps, hpk⟩ | ⟨n, e, k, hu, hk, rfl⟩
 ·refine fin (fun i => ps.toArray[i]?) (pick_map _ _ hpk) ?_
  unfold places at hps
  simp only [Program.built, h1, hu, h2, hps]
 ·refine fin (fun i => some (i * k, k)) (by simp) ?_
  unfold szOf at hk
  cases hie : P.info? e with
  | none => simp [hie] at hk
  | some ie => simp [hie] at hk; subst hk; simp only [Program.built, h1, hu, h2, hie]
theorem zCd {xs : Array Value} {n j : Nat} {y : Value} (h : (xs.toList.take n)[j]? = some y) : xs[j]? = some y := by
 rw [List.getElem?_take] at h
 split at h
 ·simpa using h
 ·cases h
theorem gp_cells {x : Value} {tt m off k : Nat} {cs : List D} (hi : Inv w0 g0 hp w g) (hb : hp.tk[tt]? = some (.chg k cs)) (hv : cs.length = m * k) (ha : Rel w g (.gp tt m off) x) (_h0 : 0 ≤ off) :
 ∃ b, ∃ (_ : True), ∃ xs, x = .pointer (some ⟨b, off, none⟩) ∧ RelL w g cs xs ∧ (∀ y ∈ xs, oneC y) ∧ (∀ (j : Nat) y, xs[j]? = some y → w.cell? ⟨b, j, none⟩ = some y) ∧
  ∃ T ys e, g.tk[tt]? = some T ∧ T.blk = some b ∧ T.len * T.k = cs.length ∧ w.heap[b]? = some (.cells ys e (0, 0)) ∧ xs = ys.toList.take (T.len * T.k) ∧ T.k = k ∧ T.len ≤ T.cap ∧ ys.size = T.cap * T.k := by
 simp only [Rel] at ha
 obtain ⟨a, T, hx, hT, hl, he⟩ := ha
 obtain ⟨T', hT', hvr, hok⟩ := hi.heap.tokBlk hb
 rw [hT] at hT'; cases hT'
 obtain ⟨hk, hlen, _, hr⟩ := hvr
 have hme : m = T.len := by
  subst hk
  exact Nat.eq_of_mul_eq_mul_right hok.1 (hv.symm.trans hlen)
 obtain ⟨b, hb', ha⟩ := he hme
 obtain ⟨_, ys, e, h1, h2⟩ := hr b hb'
 obtain ⟨_, _, hc, zs, e', h3, h4, h5⟩ := hok.2.2 b hb'
 rw [h1] at h3; cases h3
 refine ⟨b, trivial, ys.toList.take (T.len * T.k), by rw [hx, ha], h2, fun y hy => h5 y (List.mem_of_mem_take hy), fun j y hj => ?_, T, ys, e, hT, hb', hlen.symm, h1, rfl, hk.symm, hc, h4⟩
 rw [zCm h1]; exact zCd hj
theorem snd_ld {t : TypeId} {x : Operand} {n : Nat} {d : TypeDesc} (hop : o.op = .load t x) (hs : szOf P t = some n) (hu : P.underlying t = some d)
 (hi : Inv w0 g0 hp w g) {ds : List D} (hr : RelL w g ds [ρ x]) (h : opWp (.ld (zBi d) (if zBi d then n else 1)) ds hp K) : Done P ρ o w0 g0 w g K := by
 obtain ⟨a, rfl, ha⟩ := list1 (f := ρ) hr
 cases a <;> simp only [opWp] at h
 case ptr b off =>
  obtain ⟨B, cs, hb, hB, hl, h⟩ := h
  simp only [Rel] at ha
  obtain ⟨nb, hn, hx⟩ := ha
  obtain ⟨xs, e, _, g2, g3, g4, _⟩ := blk_csq hi hb hB hn
  have hlen := g2.length
  cases hd : zBi d <;> simp only [hd, if_true, if_false, Bool.false_eq_true] at h hl
  ·have hlt : off < xs.length := by omega
   refine zAg hi h (g2.getD (List.getElem?_eq_getElem hlt)) ?_
   simp [execOp, hop, hx, zCq (P := P) hu hd xs[off] nb off (g4 off _ (List.getElem?_eq_getElem hlt))]
  ·refine zAg hi h (v := .agg ((xs.drop off).take n).toArray) ?_ ?_
   ·simp only [Rel]
    exact ⟨_, rfl, (g2.drop off).take n, fun y hy => g3 y (List.mem_of_mem_drop (List.mem_of_mem_take hy))⟩
   ·have hlen2 : ((xs.drop off).take n).length = n := by simp; omega
    have := zCp (P := P) (w := w) hu hd ((xs.drop off).take n) (by rw [hlen2]; exact hs) nb off (fun j y hj => by
     rw [List.getElem?_take] at hj
     split at hj
     ·rw [List.getElem?_drop] at hj; exact g4 _ _ hj
     ·cases hj)
    simp [execOp, hop, hx, this]
 case gp tt m off =>
  obtain ⟨k, cs, hb, hv, hl, h⟩ := h
  obtain ⟨b, _, xs, e0, g2, g3, g4, _⟩ := gp_cells hi hb hv ha (by omega)
  have hlen := g2.length
  cases hd : zBi d <;> simp only [hd, if_true, if_false, Bool.false_eq_true] at h hl
  ·have hlt : off < xs.length := by omega
   refine zAg hi h (g2.getD (List.getElem?_eq_getElem hlt)) ?_
   simp [execOp, hop, e0, zCq (P := P) hu hd xs[off] b off (g4 off _ (List.getElem?_eq_getElem hlt))]
  ·refine zAg hi h (v := .agg ((xs.drop off).take n).toArray) ?_ ?_
   ·simp only [Rel]
    exact ⟨_, rfl, (g2.drop off).take n, fun y hy => g3 y (List.mem_of_mem_drop (List.mem_of_mem_take hy))⟩
   ·have hlen2 : ((xs.drop off).take n).length = n := by simp; omega
    have := zCp (P := P) (w := w) hu hd ((xs.drop off).take n) (by rw [hlen2]; exact hs) b off (fun j y hj => by
     rw [List.getElem?_take] at hj
     split at hj
     ·rw [List.getElem?_drop] at hj; exact g4 _ _ hj
     ·cases hj)
    simp [execOp, hop, e0, this]
 case ip cs =>
  obtain ⟨h00, hl, h⟩ := h
  simp only [Rel] at ha
  obtain ⟨a, xs, hx, g2, g3⟩ := ha
  obtain ⟨ab, ao, as⟩ := a
  have hlen := g2.length
  have hsp : as = none := g3.1 fun e => by
   rw [e] at hlen; simp at hlen
   rw [← hlen] at hl; simp at hl; omega
  subst hsp
  cases hd : zBi d <;> simp only [hd, if_true, if_false, Bool.false_eq_true] at h hl
  ·have hlt : 0 < xs.length := by omega
   refine zAg hi h (g2.any.getD (List.getElem?_eq_getElem hlt)) ?_
   have := (g3.2 0 _ (List.getElem?_eq_getElem hlt)).1
   simp [execOp, hop, hx, zCq (P := P) hu hd xs[0] ab ao (by simpa using this)]
  ·refine zAg hi h (v := .agg (xs.take n).toArray) ?_ ?_
   ·simp only [Rel]
    refine ⟨_, rfl, g2.any.take n, fun y hy => ?_⟩
    obtain ⟨j, hj⟩ := List.mem_iff_getElem?.1 (List.mem_of_mem_take hy)
    exact (g3.2 j y hj).2.2
   ·have hlen2 : (xs.take n).length = n := by simp; omega
    have := zCp (P := P) (w := w) hu hd (xs.take n) (by rw [hlen2]; exact hs) ab ao (fun j y hj => by
     rw [List.getElem?_take] at hj
     split at hj
     ·exact (g3.2 _ _ hj).1
     ·cases hj)
    simp [execOp, hop, hx, this]
theorem setV_take : ∀ (ys cs : List Value) (off : Nat) {n : Nat}, off + ys.length ≤ n → (setV cs off ys).take n = setV (cs.take n) off ys
 | [], _, _, _, _ => rfl
 | y :: ys, cs, off, n, h => by
   simp at h
   rw [setV, setV, setV_take ys _ _ (by omega), List.take_set]
theorem Inv.writeTok {w0 g0 hp w g w'} (h : Inv w0 g0 hp w g) {t b k : Nat} {T : Tk} {cs cs' : List D} {ys ys' : Array Value} {e : TypeId} {V' : Tv} (hT : g.tk[t]? = some T) (hV : hp.tk[t]? = some (.chg k cs)) (hb : T.blk = some b)
 (hw0 : w.heap[b]? = some (.cells ys e (0, 0))) (hw1 : w'.heap[b]? = some (.cells ys' e (0, 0))) (hw2 : ∀ m, m ≠ b → w'.heap[m]? = w.heap[m]?)
 (hs : w'.heap.size = w.heap.size) (hos : w'.os = w.os) (htp : w'.tape = w.tape) (hout : w'.output = w.output) (hsz : ys'.size = T.cap * T.k) (h1 : ∀ y ∈ ys'.toList, oneC y)
 (hr : ∀ g', Evo w g w' g' → k = T.k ∧ cs'.length = T.len * T.k ∧ RelL w' g' cs' (ys'.toList.take (T.len * T.k))) (hV' : V' = .chg k cs' := by rfl) :
 Inv w0 g0 { hp with tk := hp.tk.set t V' } w' g ∧ Evo w g w' g := by
 have h0 := h.heap
 have hTm := List.mem_of_getElem? hT
 have hset : g.tk.set t T = g.tk := by
  apply List.ext_getElem?
  intro i
  rw [List.getElem?_set]
  by_cases e : t = i
  ·subst e; rw [if_pos rfl, if_pos (zAd hT), hT]
  ·simp [e]
 have hnI : ∀ o, ¬ g.I b o := ((h0.tv t _ T hV hT).2.2.2 b hb).1
 have he : Evo w g w' g := ⟨fun b' o' hi => ⟨hi, cell_of_heap (hw2 b' fun e => by subst e; exact hnI o' hi)⟩, fun _ _ h => h, fun _ T h => ⟨T, h, rfl, .inl rfl⟩⟩
 have heq : (⟨g.r, g.tk.set t T, g.I⟩ : Gh) = g := by rw [hset]
 have hbe : b ∈ blks g.tk := mem_blks.2 ⟨T, hTm, hb⟩
 have hok := h0.tok T hTm
 have hh := h0.setTok (w' := w') (T' := T) (V' := V') (I' := g.I) hT (by rw [heq]; exact he) (fun n _ hn => hw2 n fun e => hn (by rw [e]; exact hb)) (by omega) (fun n hn => .inl hn) (fun b o ho => .inl ho)
  ⟨hok.1, hok.2.1, fun c hc => by
   rw [hb] at hc; cases hc
   exact ⟨(hok.2.2 b hb).1, (hok.2.2 b hb).2.1, (hok.2.2 b hb).2.2.1, ys', e, hw1, hsz, h1⟩⟩
  (by
   subst hV'
   rw [heq]
   obtain ⟨q1, q2, q3⟩ := hr g he
   exact ⟨q1, q2, (fun hn => by rw [hb] at hn; cases hn), fun c hc => by rw [hb] at hc; cases hc; exact ⟨hnI, ys', e, hw1, q3⟩⟩)
 rw [heq] at hh
 refine ⟨h.step hh he ⟨hos, htp, hout, by omega, fun m _ hm => hw2 m fun e => ?_⟩ (fun n hn => .inl hn) (fun n hn => .inl hn) (fun b o ho => .inl ho), he⟩
 subst e
 exact hm (List.mem_append.2 (.inr hbe))
theorem snd_st {t : TypeId} {x y : Operand} {n : Nat} (hop : o.op = .store t x y) (hs : szOf P t = some n)
 (hi : Inv w0 g0 hp w g) {ds : List D} (hr : RelL w g ds [ρ x, ρ y]) (h : opWp (.st n) ds hp K) : Done P ρ o w0 g0 w g K := by
 obtain ⟨a, v, rfl, ha, hv⟩ := list2 (f := ρ) hr
 cases a <;> simp only [opWp] at h
 case ptr b off =>
  obtain ⟨B, cs, hb, hB, hval, hn, hl, h⟩ := h
  simp only [Rel] at ha
  obtain ⟨nb, hnb, hx⟩ := ha
  obtain ⟨xs, e, g1, g2, g3, g4, g5⟩ := blk_csq hi hb hB hnb
  obtain ⟨c1, c2⟩ := hv.cells hval
  have hlen := g2.length
  have hvs : (ρ y).cells.size = n := by rw [hv.cells_size hval, hn]
  have hrun := run_storeCells_at (P := P) nb off e (ρ y).cells.toList 0 xs.toArray w g1 (by simp; omega) c2
  simp only [Nat.add_zero, List.toList_toArray] at hrun
  rw [← zEm (ρ y).cells.toList xs off (by simp; omega)] at hrun
  obtain ⟨hi', he⟩ := hi.write (w' := w.setRow nb (setV xs off (ρ y).cells.toList).toArray) b nb hnb ⟨_, hb, by intro e; subst e; simp [Blk.csq] at hB⟩ (B.putc (setL cs off v.cells))
   (fun w1 g' he => by
    have e1 : (w.setRow nb (setV xs off (ρ y).cells.toList).toArray).heap[nb]? = some (.cells (setV xs off (ρ y).cells.toList).toArray e (0, 0)) := by simp [World.setRow, Array.getElem?_modify, g1]
    rw [e1]
    exact g5 _ _ _ _ (RelL.evo _ he (g2.setL off c1)) (zFe _ _ _ _ g3 c2))
   (fun m hm => by simp [World.setRow, Array.getElem?_modify, Ne.symm hm])
   (by simp [World.setRow]) rfl rfl rfl
  refine ⟨_, _, g, Go.undef, _, h, hi', he, by simp [Rel], .inr ⟨?_, rfl⟩⟩
  simp [execOp, hop, hx, Instr.storeAt, Instr.sureAddr, storeVar, zAx hs, hvs, hrun]
 case gp tt m off =>
  obtain ⟨k, cs, hb, hvl, hval, hn, hl, h⟩ := h
  obtain ⟨b, _, xs, hx, g2, g3, g4, T, ys, e, hT, hTb, hTl, g1, hxs, hTk, hcap, hsz⟩ := gp_cells hi hb hvl ha (by omega)
  obtain ⟨c1, c2⟩ := hv.cells hval
  have hlen := g2.length
  have hvs : (ρ y).cells.size = n := by rw [hv.cells_size hval, hn]
  have hle : T.len * T.k ≤ ys.size := by rw [hsz]; exact Nat.mul_le_mul_right _ hcap
  have hrun := run_storeCells_at (P := P) b off e (ρ y).cells.toList 0 ys w g1 (by simp; omega) c2
  simp only [Nat.add_zero] at hrun
  rw [← zEm (ρ y).cells.toList ys.toList off (by simp; omega)] at hrun
  have hw1 : (w.setRow b (setV ys.toList off (ρ y).cells.toList).toArray).heap[b]? = some (.cells (setV ys.toList off (ρ y).cells.toList).toArray e (0, 0)) := by
   simp [World.setRow, Array.getElem?_modify, g1]
  have hw2 : ∀ m, m ≠ b → (w.setRow b (setV ys.toList off (ρ y).cells.toList).toArray).heap[m]? = w.heap[m]? := fun m hm => by
   simp [World.setRow, Array.getElem?_modify, Ne.symm hm]
  obtain ⟨hi', he⟩ := hi.writeTok (V' := .chg k (setL cs off v.cells)) hT hb hTb g1 hw1 hw2 (by simp [World.setRow]) rfl rfl rfl (by simp [zD6, hsz]) (zFe _ _ _ _ (((hi.heap.tok T (List.mem_of_getElem? hT)).2.2 b hTb).2.2.2.elim fun zs hz => by
   obtain ⟨e', q1, _, q3⟩ := hz; rw [g1] at q1; cases q1; exact q3) c2)
   (fun g' he' => ⟨hTk.symm, by rw [setL_length]; exact hTl.symm, by
    rw [List.toList_toArray, setV_take _ _ _ (by simp; omega), ← hxs]
    exact RelL.evo _ he' (g2.setL off c1)⟩)
  refine ⟨_, _, g, Go.undef, _, h, hi', he, by simp [Rel], .inr ⟨?_, rfl⟩⟩
  simp [execOp, hop, hx, Instr.storeAt, Instr.sureAddr, storeVar, zAx hs, hvs, hrun]
end
end GoV
end
section
set_option linter.unusedSimpArgs false
set_option maxHeartbeats 1000000
set_option maxHeartbeats 2000000
namespace GoV
open Go
section
variable {P : Program} {ρ : Operand → Value} {o : Oper} {w0 : World} {g0 : Gh} {hp : Hp} {w : World} {g : Gh} {K : D → Hp → Prop}
theorem snd_fld {t : TypeId} {x : Operand} {f m : Nat} {fs : Array Field} {fl : Field} (hop : o.op = .fieldAddr t x f) (hu : P.underlying t = some (.struct fs)) (hf : fs[f]? = some fl) (hm : szOf P fl.type = some (m + 1))
 (hi : Inv w0 g0 hp w g) {ds : List D} (hr : RelL w g ds [ρ x]) (h : opWp (.fld fl.offset) ds hp K) : Done P ρ o w0 g0 w g K := by
 obtain ⟨a, rfl, ha⟩ := list1 (f := ρ) hr
 have hrun : ∀ a : Addr, (Instr.fieldAt t (.pointer (some a)) f).run P w = .ok (.pointer (some (a.add fl.offset))) w := by
  intro a
  simp [Instr.fieldAt, run_underlying hu, hf, Instr.sureAddr, fieldPlace, zAx hm]
 cases a <;> simp only [opWp] at h
 case ptr b off =>
  simp only [Rel] at ha
  obtain ⟨nb, hn, hx⟩ := ha
  refine zAg hi h (v := .pointer (some ⟨nb, off + fl.offset, none⟩)) (by simp only [Rel]; exact ⟨nb, hn, rfl⟩) ?_
  simp [execOp, hop, hx, hrun, Addr.add_lit]
 case ip cs =>
  simp only [Rel] at ha
  obtain ⟨a, xs, hx, g2, g3⟩ := ha
  refine zAg hi h (v := .pointer (some (a.add fl.offset))) ?_ (by simp [execOp, hop, hx, hrun])
  simp only [Rel]
  exact ⟨_, _, rfl, g2.drop fl.offset, g3.add fl.offset⟩
 case gp tt m off =>
  simp only [Rel] at ha
  obtain ⟨a, T, hx, h1, h2, h3⟩ := ha
  refine zAg hi h (v := .pointer (some (a.add fl.offset))) ?_ (by simp [execOp, hop, hx, hrun])
  simp only [Rel]
  refine ⟨_, T, rfl, h1, h2, fun e => ?_⟩
  obtain ⟨b, h4, rfl⟩ := h3 e
  exact ⟨b, h4, by rw [Addr.add_lit]⟩
theorem snd_fv {t : TypeId} {x : Operand} {f n : Nat} {fs : Array Field} {fl : Field} {d : TypeDesc} (hop : o.op = .field t x f) (hu : P.underlying t = some (.struct fs)) (hf : fs[f]? = some fl) (hm : szOf P fl.type = some n) (hd : P.underlying fl.type = some d)
 (hi : Inv w0 g0 hp w g) {ds : List D} (hr : RelL w g ds [ρ x]) (h : opWp (.fv (zBi d) fl.offset (if zBi d then n else 1)) ds hp K) : Done P ρ o w0 g0 w g K := by
 obtain ⟨a, rfl, ha⟩ := list1 (f := ρ) hr
 cases a <;> simp only [opWp] at h
 case agg cs =>
  obtain ⟨hl, h⟩ := h
  simp only [Rel] at ha
  obtain ⟨xs, hx, g2, g3⟩ := ha
  have hlen := g2.length
  cases he : zBi d <;> simp only [he, if_true, if_false, Bool.false_eq_true] at h hl
  ·have hlt : fl.offset < xs.length := by omega
   refine zAg hi h (g2.getD (List.getElem?_eq_getElem hlt)) ?_
   simp [execOp, hop, hx, Instr.field, run_underlying hu, hf, asAgg, zDe (P := P) hd he xs.toArray fl.offset xs[fl.offset] (by simp [hlt])]
  ·refine zAg hi h (v := .agg ((xs.drop fl.offset).take n).toArray) ?_ ?_
   ·simp only [Rel]
    exact ⟨_, rfl, (g2.drop _).take n, fun y hy => g3 y (List.mem_of_mem_drop (List.mem_of_mem_take hy))⟩
   ·have e : (xs.toArray.extract fl.offset (fl.offset + n)) = ((xs.drop fl.offset).take n).toArray := by
     apply Array.ext'
     simp [List.extract_eq_take_drop]
    simp only [execOp, hop, hx, Instr.field, Sem.run_bind, run_underlying hu, Result.andThen_ok, hf, asAgg, Sem.run_pure, zDd (P := P) hd he hm xs.toArray fl.offset, e]
theorem zFp (k : IntKind) (n : Int) (w : World) : (asIntOf (.int k n)).run P w = .ok (k, n) w := rfl
theorem snd_ixaA {t : TypeId} {x i : Operand} {n k : Nat} {e : TypeId} (hop : o.op = .indexAddr t x i) (hu : P.underlying t = some (.array n e)) (hk : szOf P e = some k)
 (hi : Inv w0 g0 hp w g) {ds : List D} (hr : RelL w g ds [ρ x, ρ i]) (h : opWp (.ixaA n k) ds hp K) : Done P ρ o w0 g0 w g K := by
 obtain ⟨a, b, rfl, ha, hb⟩ := list2 (f := ρ) hr
 have hrun : ∀ (a : Addr) (ki : IntKind) (j : Int), 0 ≤ j → j < n → (Instr.indexAt t (.pointer (some a)) (.int ki j)).run P w = .ok (.pointer (some (a.add (j.toNat * k)))) w := by
  intro a ki j h0 h1
  simp [Instr.indexAt, zFp, run_underlying hu, Instr.sureAddr, h0, h1, zAx hk]
 cases a <;> cases b <;> simp only [opWp] at h
 case ptr.int b off ki j =>
  obtain ⟨h0, h1, h⟩ := h
  simp only [Rel] at ha hb
  obtain ⟨nb, hn, hx⟩ := ha
  refine zAg hi h (v := .pointer (some ⟨nb, off + j.toNat * k, none⟩)) (by simp only [Rel]; exact ⟨nb, hn, rfl⟩) ?_
  simp [execOp, hop, hx, hb, hrun _ ki j h0 h1, Addr.add_lit]
 case ip.int cs ki j =>
  obtain ⟨h0, h1, h⟩ := h
  simp only [Rel] at ha hb
  obtain ⟨a, xs, hx, g2, g3⟩ := ha
  refine zAg hi h (v := .pointer (some (a.add (j.toNat * k)))) ?_ (by simp [execOp, hop, hx, hb, hrun _ ki j h0 h1])
  simp only [Rel]
  exact ⟨_, _, rfl, g2.drop _, g3.add _⟩
 case gp.int tt m off ki j =>
  obtain ⟨h0, h1, h⟩ := h
  simp only [Rel] at ha hb
  obtain ⟨a, T, hx, q1, q2, q3⟩ := ha
  refine zAg hi h (v := .pointer (some (a.add (j.toNat * k)))) ?_ (by simp [execOp, hop, hx, hb, hrun _ ki j h0 h1])
  simp only [Rel]
  refine ⟨_, T, rfl, q1, q2, fun e => ?_⟩
  obtain ⟨b, h4, rfl⟩ := q3 e
  exact ⟨b, h4, by rw [Addr.add_lit]⟩
theorem snd_ixaS {t : TypeId} {x i : Operand} {k : Nat} {e : TypeId} (hop : o.op = .indexAddr t x i) (hu : P.underlying t = some (.slice e)) (hk : szOf P e = some k)
 (hi : Inv w0 g0 hp w g) {ds : List D} (hr : RelL w g ds [ρ x, ρ i]) (h : opWp (.ixaS k) ds hp K) : Done P ρ o w0 g0 w g K := by
 obtain ⟨a, b, rfl, ha, hb⟩ := list2 (f := ρ) hr
 have hrun : ∀ (a : Addr) (n cap : Nat) (ki : IntKind) (j : Int), 0 ≤ j → j < n → (Instr.indexAt t (.slice (some a) n cap) (.int ki j)).run P w = .ok (.pointer (some (a.add (j.toNat * k)))) w := by
  intro a n cap ki j h0 h1
  simp [Instr.indexAt, zFp, run_underlying hu, h0, h1, zAx hk]
 cases a <;> cases b <;> simp only [opWp] at h
 case slice.int es own ki j =>
  obtain ⟨h0, h1, hv, hc, h⟩ := h
  simp only [Rel] at ha hb
  obtain ⟨a, cap, k', xs, hx, _, g3, g4, g5, _⟩ := ha
  have hlt : j.toNat < xs.length := by rw [g3.length]; omega
  have hx : ρ x = .slice (some a) es.length cap := by
   rcases hx with hx | ⟨_, hx, _⟩
   ·exact hx
   ·subst hx; simp at h1; omega
  have hrel := g3.getD (List.getElem?_eq_getElem hlt)
  have hk' : k' = k := by
   rw [← hc, ← hrel.cells_size hv]
   exact (g4 _ (List.getElem_mem hlt)).symm
  subst hk'
  have hat := flat_at g5 g4 (List.getElem?_eq_getElem hlt)
  refine zAg hi h (v := .pointer (some (a.add (j.toNat * k')))) ?_ ?_
  ·simp only [Rel]
   exact ⟨_, _, rfl, (hrel.cells hv).1, hat⟩
  ·simp [execOp, hop, hx, hb, hrun _ _ _ ki j h0 h1]
 case sl.int b' k' off len cap ki j =>
  obtain ⟨h0, h1, h2, rfl, h⟩ := h
  simp only [Rel] at ha hb
  obtain ⟨n, o', q1, hx, q2⟩ := ha
  have q2 := q2 (by omega)
  subst q2
  refine zAg hi h (v := .pointer (some ⟨n, o' + j.toNat * k', none⟩)) (by simp only [Rel]; exact ⟨n, q1, rfl⟩) ?_
  simp [execOp, hop, hx, hb, hrun _ _ _ ki j h0 h1, Addr.add_lit]
 case gs.int tt n ki j =>
  obtain ⟨h0, h1, h⟩ := h
  simp only [Rel] at ha hb
  obtain ⟨a, cap, T, hx, hnn, hT, hl, he⟩ := ha
  have hok := hi.heap.tok T (List.mem_of_getElem? hT)
  cases a with
  | some a =>
    refine zAg hi h (v := .pointer (some (a.add (j.toNat * k)))) ?_ (by simp [execOp, hop, hx, hb, hrun _ _ _ ki j h0 h1])
    simp only [Rel]
    refine ⟨_, T, rfl, hT, hl, fun e => ?_⟩
    obtain ⟨hae, _, hbl⟩ := he e
    obtain ⟨b, hTb⟩ := hbl (by omega)
    have := (hok.2.2 b hTb).1
    rw [this] at hae; cases hae
    exact ⟨b, hTb, by rw [Addr.add_lit, Nat.zero_add]⟩
  | none => have := hnn rfl; omega
theorem snd_ixvS {t : TypeId} {x i : Operand} (hop : o.op = .index t x i) (hu : P.underlying t = some .string)
 (hi : Inv w0 g0 hp w g) {ds : List D} (hr : RelL w g ds [ρ x, ρ i]) (h : opWp .ixvS ds hp K) : Done P ρ o w0 g0 w g K := by
 obtain ⟨a, b, rfl, ha, hb⟩ := list2 (f := ρ) hr
 cases a <;> cases b <;> simp only [opWp] at h
 case str.int s ki j =>
  obtain ⟨h0, h1, h⟩ := h
  simp only [Rel] at ha hb
  refine zAz hi h ?_
  have hlt : j.toNat < s.length := by omega
  have hs : (ByteArray.mk s.toArray)[j.toNat]? = some (s.getD j.toNat 0) := by
   rw [ByteArray.getElem?_lt' _ _ (by simpa [ByteArray.size] using hlt)]
   simp [List.getD, hlt]
   rfl
  simp [execOp, hop, ha, hb, Instr.index, zFp, run_underlying hu, h0, hs]
theorem zDc {t : TypeId} (hu : P.underlying t = some .string) (s : List UInt8) (lo hi : Option (IntKind × Int)) (l h : Nat)
 (hl : l = match lo with | some p => p.2.toNat | none => 0) (hh : h = match hi with | some p => p.2.toNat | none => s.length)
 (h0 : ∀ p, lo = some p → 0 ≤ p.2) (h1 : ∀ p, hi = some p → 0 ≤ p.2) (h2 : l ≤ h) (h3 : h ≤ s.length) (w : World) :
 (Instr.sliceAt t (.string ⟨s.toArray⟩) (lo.map fun p => .int p.1 p.2) (hi.map fun p => .int p.1 p.2) none).run P w = .ok (.string ⟨((s.take h).drop l).toArray⟩) w := by
 have hx : ByteArray.extract ⟨s.toArray⟩ l h = ⟨((s.take h).drop l).toArray⟩ := by
  rw [Lib.extract_eq]
  congr 2
  simp [List.drop_take]
 have hsz : (ByteArray.mk s.toArray).size = s.length := zF7 s
 have hb : (Instr.sliceBounds false (ByteArray.mk s.toArray).size (ByteArray.mk s.toArray).size (lo.map fun p => .int p.1 p.2) (hi.map fun p => .int p.1 p.2) none).run P w = .ok (l, h, s.length) w := by
  cases lo with
  | none =>
    cases hi with
    | none => simp at hl hh; subst hl; subst hh; simp [Instr.sliceBounds, hsz]
    | some q =>
      obtain ⟨k2, j2⟩ := q
      have := h1 _ rfl
      simp at hl hh this; subst hl; subst hh
      simp [Instr.sliceBounds, hsz, run_sliceBound (P := P) (w := w) k2 j2 s.length _ this (by omega)]
  | some p =>
    obtain ⟨k1, j1⟩ := p
    have g0 := h0 _ rfl
    cases hi with
    | none =>
      simp at hl hh g0; subst hl; subst hh
      simp [Instr.sliceBounds, hsz, run_sliceBound (P := P) (w := w) k1 j1 s.length _ g0 (by omega)]
    | some q =>
      obtain ⟨k2, j2⟩ := q
      have := h1 _ rfl
      simp at hl hh g0 this; subst hl; subst hh
      simp [Instr.sliceBounds, hsz, run_sliceBound (P := P) (w := w) k2 j2 s.length _ this (by omega), run_sliceBound (P := P) (w := w) k1 j1 j2.toNat _ g0 (by omega)]
 simp [Instr.sliceAt, run_underlying hu, Instr.slice, hb, hx]
theorem snd_slcS {t : TypeId} {x : Operand} {lo hi' : Option Operand} (hop : o.op = .slice t x lo hi' none) (hu : P.underlying t = some .string)
 (hi : Inv w0 g0 hp w g) {ds : List D} (hr : RelL w g ds ((x :: (lo.toList ++ hi'.toList)).map ρ)) (h : opWp (.slcS lo.isSome hi'.isSome) ds hp K) : Done P ρ o w0 g0 w g K := by
 cases lo <;> cases hi' <;> simp only [Option.isSome, Option.toList, List.nil_append, List.append_nil, List.map_cons, List.map_nil, List.cons_append] at hr h
 ·obtain ⟨a, rfl, ha⟩ := list1 (f := ρ) hr
  cases a <;> simp only [opWp] at h
  case str s =>
   simp only [Rel] at ha
   refine zDl hi h ?_
   have := zDc (P := P) hu s none none 0 s.length rfl rfl (by simp) (by simp) (Nat.zero_le _) (Nat.le_refl _) w
   simp at this
   simp [execOp, hop, ha, this]
 ·rename_i q
  obtain ⟨a, b, rfl, ha, hb⟩ := list2 (f := ρ) hr
  cases a <;> cases b <;> simp only [opWp] at h
  case str.int s k j =>
   obtain ⟨h0, h1, h⟩ := h
   simp only [Rel] at ha hb
   refine zDl hi h ?_
   have := zDc (P := P) hu s none (some (k, j)) 0 j.toNat rfl rfl (by simp) (by simpa using h0) (Nat.zero_le _) (by omega) w
   simp at this
   simp [execOp, hop, ha, hb, this]
 ·rename_i q
  obtain ⟨a, b, rfl, ha, hb⟩ := list2 (f := ρ) hr
  cases a <;> cases b <;> simp only [opWp] at h
  case str.int s k j =>
   obtain ⟨h0, h1, h⟩ := h
   simp only [Rel] at ha hb
   refine zDl hi h ?_
   have := zDc (P := P) hu s (some (k, j)) none j.toNat s.length rfl rfl (by simpa using h0) (by simp) (by omega) (Nat.le_refl _) w
   simp at this
   simp [execOp, hop, ha, hb, this]
 ·rename_i q r
  obtain ⟨a, b, c, rfl, ha, hb, hc⟩ := list3 (f := ρ) hr
  cases a <;> try (simp only [opWp] at h; done)
  cases b <;> try (simp only [opWp] at h; done)
  cases c <;> try (simp only [opWp] at h; done)
  all_goals simp only [opWp] at h
  case str.int.int s k j k2 j2 =>
   obtain ⟨h0, h1, h2, h⟩ := h
   simp only [Rel] at ha hb hc
   refine zDl hi h ?_
   have := zDc (P := P) hu s (some (k, j)) (some (k2, j2)) j.toNat j2.toNat rfl rfl (by simpa using h0) (by simp; omega) (by omega) (by omega) w
   simp at this
   simp [execOp, hop, ha, hb, hc, this]
def bnds (lo hi : Bool) (is : List D) (n l h : Int) : Prop :=
 match lo, hi, is with
 | false, false, [] => l = 0 ∧ h = n
 | true, false, [.int _ a] => l = a ∧ h = n
 | false, true, [.int _ b] => l = 0 ∧ h = b
 | true, true, [.int _ a, .int _ b] => l = a ∧ h = b
 | _, _, _ => False
theorem zE9 {lo hi' : Option Operand} {is : List D} {n cap : Nat} {l h : Int} (b : Bool) (hb : bnds lo.isSome hi'.isSome is n l h) (hr : RelL w g is ((lo.toList ++ hi'.toList).map ρ)) (h0 : 0 ≤ l) (h1 : l ≤ h) (h2 : h ≤ n) (hc : n ≤ cap) :
 (Instr.sliceBounds b n cap (lo.map ρ) (hi'.map ρ) none).run P w = .ok (l.toNat, h.toNat, cap) w := by
 cases lo <;> cases hi' <;> simp only [Option.toList, List.nil_append, List.append_nil, List.map_cons, List.map_nil, List.cons_append] at hr <;> unfold bnds at hb <;> dsimp only [Option.isSome] at hb
 ·rw [show is = [] by cases is with | nil => rfl | cons a r => obtain ⟨_, _, e, _⟩ := hr.inv; cases e] at hb
  obtain ⟨rfl, rfl⟩ := hb
  simp [Instr.sliceBounds]
 ·rename_i q
  obtain ⟨a, rfl, ha⟩ := list1 (f := ρ) hr
  cases a <;> simp only at hb
  case int k j =>
   obtain ⟨rfl, rfl⟩ := hb
   simp only [Rel] at ha
   simp [Instr.sliceBounds, ha, run_sliceBound (P := P) (w := w) k h cap _ (by omega) (by omega)]
 ·rename_i q
  obtain ⟨a, rfl, ha⟩ := list1 (f := ρ) hr
  cases a <;> simp only at hb
  case int k j =>
   obtain ⟨rfl, rfl⟩ := hb
   simp only [Rel] at ha
   simp [Instr.sliceBounds, ha, run_sliceBound (P := P) (w := w) k l n _ (by omega) (by omega)]
 ·rename_i q r
  obtain ⟨a, c, rfl, ha, hc'⟩ := list2 (f := ρ) hr
  cases a <;> cases c <;> simp only at hb
  case int.int k j k2 j2 =>
   obtain ⟨rfl, rfl⟩ := hb
   simp only [Rel] at ha hc'
   simp [Instr.sliceBounds, ha, hc', run_sliceBound (P := P) (w := w) k2 h cap _ (by omega) (by omega), run_sliceBound (P := P) (w := w) k l h.toNat _ (by omega) (by omega)]
theorem elemsK_mem {k : Nat} : ∀ {es : List D}, zAh k es = true → ∀ d ∈ es, d.iV = true ∧ d.cells.length = k
 | [], _, _, h => by simp at h
 | e :: es, h, d, hd => by
   simp only [zAh, Bool.and_eq_true, beq_iff_eq] at h
   rcases List.mem_cons.1 hd with q | q
   ·subst q; exact ⟨h.1.1, h.1.2⟩
   ·exact elemsK_mem h.2 d q
theorem zFy {k k' : Nat} {es : List D} {xs : List Value} (h : zAh k es = true) (hr : RelL w g.cl es xs) (hk : ∀ y ∈ xs, y.cells.size = k') : xs = [] ∨ k' = k := by
 cases es with
 | nil => exact .inl hr.inv_nil
 | cons e es =>
   obtain ⟨y, ys, rfl, h1, h2⟩ := hr.inv
   obtain ⟨q1, q2⟩ := elemsK_mem h e (by simp)
   right
   rw [← q2, ← h1.cells_size q1]
   exact (hk y (by simp)).symm
theorem addr_shift (a : Addr) (h : a.spot = none) (c : Prop) [Decidable c] (n : Nat) : ∃ o, (if c then a else a.add n) = ⟨a.block, o, none⟩ ∧ (¬c → o = a.off + n) := by
 rw [add_eq a h]
 by_cases hc : c
 ·rw [if_pos hc]; exact ⟨a.off, by obtain ⟨b, o, s⟩ := a; simp at h; subst h; rfl, fun q => absurd hc q⟩
 ·rw [if_neg hc]; exact ⟨_, rfl, fun _ => rfl⟩
theorem zEo {P : Program} {w : World} {k : IntKind} {i : Int} {y : Nat} {c : BoundsCode} (h0 : 0 ≤ i) (h1 : i ≤ y) : (Instr.sliceBound (.int k i) y c).run P w = .ok i.toNat w := by
 simp [Instr.sliceBound, asIntOf, Sem.run_bind, Sem.run_pure, Result.andThen_ok, h0, h1]
theorem snd_slc3 {t : TypeId} {x lo hi' mx : Operand} {k : Nat} {e : TypeId} (hop : o.op = .slice t x (some lo) (some hi') (some mx)) (hu : P.underlying t = some (.slice e)) (hk : szOf P e = some k)
 (hi : Inv w0 g0 hp w g) {ds : List D} (hr : RelL w g ds ([x, lo, hi', mx].map ρ)) (h : opWp (.slc3 k) ds hp K) : Done P ρ o w0 g0 w g K := by
 have hsh : ∃ es own k1 l k2 b k3 m, ds = [.slice es own, .int k1 l, .int k2 b, .int k3 m] ∧ 0 ≤ l ∧ l ≤ b ∧ b ≤ m ∧ m ≤ es.length ∧ zAh k es = true ∧ K (.slice ((es.take b.toNat).drop l.toNat) .no) hp := by
  cases ds with
  | nil => simp only [opWp] at h
  | cons x is =>
    simp only [opWp] at h
    obtain ⟨l, b, m, hb, h0, h1, h2, h3, h4⟩ := h
    cases x <;> first
     | (simp only at h4; done)
     | skip
    case slice es own =>
     match is, hb with
     | [.int k1 a, .int k2 b', .int k3 c], hb =>
       obtain ⟨rfl, rfl, rfl⟩ := hb
       exact ⟨es, own, k1, _, k2, _, k3, _, rfl, h0, h1, h2, h3, h4⟩
 clear h
 obtain ⟨es, own, k1, l, k2, b, k3, m, rfl, h0, h1, h2, h3, hK, h⟩ := hsh
 ·simp only [List.map_cons, List.map_nil] at hr
  simp only [RelL, Rel, List.cons.injEq] at hr
  obtain ⟨v0, _, ⟨rfl, rfl⟩, ⟨a, cap, k', xs, hx, g2, g3, g4, g5, _⟩, v1, _, ⟨rfl, rfl⟩, e1, v2, _, ⟨rfl, rfl⟩, e2, v3, _, ⟨rfl, rfl⟩, e3, _⟩ := hr
  have hlen := g3.length
  have b1 := zEo (P := P) (w := w) (k := ‹IntKind›) (i := m) (y := cap) (c := .slice3Acap) (by omega) (by omega)
  rcases hx with hx | ⟨hx, rfl, rfl⟩
  ·refine zAg hi h (v := .slice (some (if m.toNat = l.toNat then a else a.add (l.toNat * k))) (b.toNat - l.toNat) (m.toNat - l.toNat)) ?_ ?_
   ·simp only [Rel]
    refine ⟨(if m.toNat = l.toNat then a else a.add (l.toNat * k)), m.toNat - l.toNat, k', (xs.take b.toNat).drop l.toNat, .inl ?_, ?_, (g3.take _).drop _, fun y hy => g4 y (List.mem_of_mem_take (List.mem_of_mem_drop hy)), ?_, trivial⟩
    iterate 2
     ·simp; omega
    ·by_cases hz : (xs.take b.toNat).drop l.toNat = []
     ·rw [hz]; exact At.nil
     ·have hlt : l.toNat < b.toNat := by
       rcases Nat.lt_or_ge l.toNat b.toNat with q | q
       ·exact q
       ·exact absurd (List.drop_eq_nil_of_le (by simp; omega)) hz
      have hkk : k' = k := by
       rcases zFy hK g3 g4 with q | q
       ·subst q; simp at hlen; omega
       ·exact q
      subst hkk
      rw [if_neg (show ¬m.toNat = l.toNat by omega)]
      have h3 := g5.take (b.toNat * k')
      rw [flat_take xs k' b.toNat g4 (by omega)] at h3
      have h4 := h3.add (l.toNat * k')
      rw [flat_drop _ k' l.toNat (fun y hy => g4 y (List.mem_of_mem_take hy))] at h4
      exact h4
   ·have c1 : 0 ≤ m ∧ m ≤ (cap : Int) := by omega
    have c2 : 0 ≤ b ∧ b ≤ ((m.toNat : Nat) : Int) := by omega
    have c3 : 0 ≤ l ∧ l ≤ ((b.toNat : Nat) : Int) := by omega
    simp only [execOp, hop, Option.map_some, hx, e1, e2, e3, Instr.sliceAt, run_underlying hu, Instr.slice, Instr.sliceBounds, Sem.run_bind, Sem.run_pure, Result.andThen_ok, zEo c1.1 c1.2, zEo c2.1 c2.2, zEo c3.1 c3.2, zAx hk, if_true]
    by_cases q : m.toNat = l.toNat <;> simp [q]
  ·have hn := g3.inv_nil
   subst hn
   simp at h3
   have hl0 : l = 0 := by omega
   have hb0 : b = 0 := by omega
   have hm0 : m = 0 := by omega
   subst hl0; subst hb0; subst hm0
   refine zAg hi h (v := .slice none 0 0) ?_ ?_
   ·simp only [Rel]
    exact ⟨⟨0, 0, none⟩, 0, 0, [], .inr ⟨by simp, by simp, rfl⟩, by simp, by simpa using RelL.nil, by simp, At.nil, by trivial⟩
   ·simp only [execOp, hop, Option.map_some, hx, e1, e2, e3, Instr.sliceAt, run_underlying hu, Instr.slice, Instr.sliceBounds, Sem.run_bind, Sem.run_pure, Result.andThen_ok, zEo (Int.le_refl 0) (show (0:Int) ≤ ((0:Nat):Int) by simp), Int.toNat_zero, zAx hk, if_true]
theorem snd_slcL {t : TypeId} {x : Operand} {lo hi' : Option Operand} {k : Nat} {e : TypeId} (hop : o.op = .slice t x lo hi' none) (hu : P.underlying t = some (.slice e)) (hk : szOf P e = some k)
 (hi : Inv w0 g0 hp w g) {ds : List D} (hr : RelL w g ds ((x :: (lo.toList ++ hi'.toList)).map ρ)) (h : opWp (.slcL k lo.isSome hi'.isSome) ds hp K) : Done P ρ o w0 g0 w g K := by
 cases ds with
 | nil => simp only [opWp] at h
 | cons a is =>
   obtain ⟨v, vs, e0, ha, his⟩ := hr.inv
   simp only [List.map_cons, List.cons.injEq] at e0
   obtain ⟨rfl, rfl⟩ := e0
   simp only [opWp] at h
   obtain ⟨l, h', hb', h0, h1, h2, h⟩ := h
   have hb : bnds lo.isSome hi'.isSome is (dlen a) l h' := hb'
   clear hb'
   cases a <;> first
    | (simp only at h; done)
    | skip
   case lit v =>
    cases v <;> first
     | (simp only at h; done)
     | skip
    rename_i aa nn cc
    cases aa <;> cases nn <;> cases cc <;> first
     | (simp only at h; done)
     | skip
    simp only [dlen] at hb h2
    have hl0 : l = 0 := by omega
    have hh0 : h' = 0 := by omega
    subst hl0; subst hh0
    simp only [Rel] at ha
    have hbd := zE9 (P := P) (n := 0) (cap := 0) true (by simpa using hb) his (by omega) (by omega) (by omega) (by omega)
    refine zAg hi h (v := .slice none 0 0) (by simp [Rel, Value.oneCell']) ?_
    simp [execOp, hop, ha.1, Instr.sliceAt, run_underlying hu, Instr.slice, hbd, zAx hk]
   case slice es own =>
    obtain ⟨hK, h⟩ := h
    simp only [dlen] at hb h2
    simp only [Rel] at ha
    obtain ⟨a, cap, k', xs, hx, g2, g3, g4, g5, _⟩ := ha
    have hlen := g3.length
    have hbd := zE9 (P := P) (n := es.length) (cap := cap) true hb his h0 h1 h2 g2
    rcases hx with hx | ⟨hx, rfl, rfl⟩
    ·refine zAg hi h (v := .slice (some (if cap = l.toNat then a else a.add (l.toNat * k))) (h'.toNat - l.toNat) (cap - l.toNat)) ?_ ?_
     ·simp only [Rel]
      refine ⟨(if cap = l.toNat then a else a.add (l.toNat * k)), cap - l.toNat, k', (xs.take h'.toNat).drop l.toNat, .inl ?_, ?_, (g3.take _).drop _, fun y hy => g4 y (List.mem_of_mem_take (List.mem_of_mem_drop hy)), ?_, trivial⟩
      iterate 2
       ·simp; omega
      ·by_cases hz : (xs.take h'.toNat).drop l.toNat = []
       ·rw [hz]; exact At.nil
       ·have hlt : l.toNat < h'.toNat := by
         rcases Nat.lt_or_ge l.toNat h'.toNat with q | q
         ·exact q
         ·exact absurd (List.drop_eq_nil_of_le (by simp; omega)) hz
        have hkk : k' = k := by
         rcases zFy hK g3 g4 with q | q
         ·subst q; simp at hlen; omega
         ·exact q
        subst hkk
        rw [if_neg (show ¬cap = l.toNat by omega)]
        have h3 := g5.take (h'.toNat * k')
        rw [flat_take xs k' h'.toNat g4 (by omega)] at h3
        have h4 := h3.add (l.toNat * k')
        rw [flat_drop _ k' l.toNat (fun y hy => g4 y (List.mem_of_mem_take hy))] at h4
        exact h4
     ·simp [execOp, hop, hx, Instr.sliceAt, run_underlying hu, Instr.slice, hbd, zAx hk]
      by_cases q : cap = l.toNat <;> simp [q]
    ·have hn := g3.inv_nil
     subst hn
     simp at h2
     have hl0 : l = 0 := by omega
     have hh0 : h' = 0 := by omega
     subst hl0; subst hh0
     refine zAg hi h (v := .slice none 0 0) ?_ ?_
     ·simp only [Rel]
      exact ⟨⟨0, 0, none⟩, 0, 0, [], .inr ⟨by simp, by simp, rfl⟩, by simp, by simpa using RelL.nil, by simp, At.nil, by trivial⟩
     ·simp at hbd
      simp [execOp, hop, hx, Instr.sliceAt, run_underlying hu, Instr.slice, hbd, zAx hk]
   case sl b k' off len cap =>
    obtain ⟨rfl, hlc, h⟩ := h
    simp only [dlen] at hb h2
    simp only [Rel] at ha
    obtain ⟨n, o', q1, hx, q2⟩ := ha
    have hbd := zE9 (P := P) (n := len) (cap := cap) true hb his h0 h1 h2 hlc
    obtain ⟨o2, ho1, ho2⟩ := addr_shift ⟨n, o', none⟩ rfl (cap = l.toNat) (l.toNat * k')
    refine zAg hi h (v := .slice (some ⟨n, o2, none⟩) (h'.toNat - l.toNat) (cap - l.toNat)) ?_ ?_
    ·simp only [Rel]
     exact ⟨n, o2, q1, rfl, fun hc => by rw [ho2 (by omega), q2 (by omega)]⟩
    ·simp [execOp, hop, hx, Instr.sliceAt, run_underlying hu, Instr.slice, hbd, zAx hk]
     rw [← ho1]
     by_cases q : cap = l.toNat <;> simp [q]
theorem snd_slcA {t : TypeId} {x : Operand} {lo hi' : Option Operand} {n k : Nat} {e : TypeId} (hop : o.op = .slice t x lo hi' none) (hu : P.underlying t = some (.array n e)) (hk : szOf P e = some k)
 (hi : Inv w0 g0 hp w g) {ds : List D} (hr : RelL w g ds ((x :: (lo.toList ++ hi'.toList)).map ρ)) (h : opWp (.slcA n k lo.isSome hi'.isSome) ds hp K) : Done P ρ o w0 g0 w g K := by
 cases ds with
 | nil => simp only [opWp] at h
 | cons a is =>
   obtain ⟨v, vs, e0, ha, his⟩ := hr.inv
   simp only [List.map_cons, List.cons.injEq] at e0
   obtain ⟨rfl, rfl⟩ := e0
   cases a <;> simp only [opWp] at h
   case ptr b off =>
    obtain ⟨l, h', hb, h0, h1, h2, h⟩ := h
    have hb : bnds lo.isSome hi'.isSome is (n : Int) l h' := hb
    simp only [Rel] at ha
    obtain ⟨nb, q1, hx⟩ := ha
    have hbd := zE9 (P := P) (n := n) (cap := n) false hb his h0 h1 h2 (Nat.le_refl _)
    obtain ⟨o2, ho1, ho2⟩ := addr_shift ⟨nb, off, none⟩ rfl (n = l.toNat) (l.toNat * k)
    refine zAg hi h (v := .slice (some ⟨nb, o2, none⟩) (h'.toNat - l.toNat) (n - l.toNat)) ?_ ?_
    ·simp only [Rel]
     exact ⟨nb, o2, q1, rfl, fun hc => by rw [ho2 (by omega)]⟩
    ·simp [execOp, hop, hx, Instr.sliceAt, Instr.sureAddr, run_underlying hu, hbd, zAx hk]
     rw [← ho1]
end
end GoV
end
section
set_option linter.unusedSimpArgs false
set_option maxHeartbeats 1000000
namespace GoV
open Go
section
variable {P : Program} {w : World} {g : Gh}
def zFl (k : Nat) : Nat → List Value → List Value
 | 0, _ => []
 | n + 1, cs => (if k = 1 then cs.getD 0 Go.undef else .agg (cs.take k).toArray) :: zFl k n (cs.drop k)
theorem zAt (k : Nat) : ∀ (n : Nat) (cs : List D), (chunk k n cs).length = n
 | 0, _ => rfl
 | n + 1, cs => by simp [chunk, zAt k n]
theorem zE4 {x : Value} (h : oneC x) : x.cells = #[x] := by
 unfold oneC at h
 cases x <;> first
  | rfl
  | simp [Value.oneCell'] at h
theorem zE3 {k : Nat} : ∀ (n : Nat) (cs : List D) (xs : List Value), RelL w g cs xs → (∀ y ∈ xs, oneC y) → n * k ≤ xs.length →
 RelL w g (chunk k n cs) (zFl k n xs) ∧ (∀ y ∈ zFl k n xs, y.cells.size = k) ∧ flat (zFl k n xs) = xs.take (n * k)
 | 0, _, _, _, _, _ => ⟨RelL.nil, by simp [zFl], by simp [zFl, flat]⟩
 | n + 1, cs, xs, h, ho, hl => by
   rw [Nat.add_mul, Nat.one_mul] at hl
   obtain ⟨h1, h2, h3⟩ := zE3 (k := k) n (cs.drop k) (xs.drop k) (h.drop k) (fun y hy => ho y (List.mem_of_mem_drop hy)) (by simp; omega)
   have hlen := h.length
   simp only [chunk, zFl]
   by_cases hk : k = 1
   ·subst hk
    simp only [if_true]
    have hlt : 0 < xs.length := by omega
    have hx := List.getElem?_eq_getElem hlt
    have hoc := ho _ (List.getElem_mem hlt)
    have e : xs.getD 0 Go.undef = xs[0] := by simp [List.getD, hx]
    rw [e]
    refine ⟨RelL.cons (h.getD hx) h1, fun y hy => ?_, ?_⟩
    ·rcases List.mem_cons.1 hy with q | q
     ·subst q; rw [zE4 hoc]; rfl
     ·exact h2 y q
    ·simp only [flat, zE4 hoc, h3]
     cases xs with
     | nil => simp at hlt
     | cons x xs => simp [Nat.add_comm]
   ·simp only [hk, if_false]
    refine ⟨RelL.cons (by simp only [Rel]; exact ⟨_, rfl, h.take k, fun y hy => ho y (List.mem_of_mem_take hy)⟩) h1, fun y hy => ?_, ?_⟩
    ·rcases List.mem_cons.1 hy with q | q
     ·subst q; simp [Value.cells]; omega
     ·exact h2 y q
    ·simp only [flat, Value.cells, h3]
     rw [show (n + 1) * k = k + n * k by rw [Nat.add_mul]; omega, List.take_add]
theorem zCt : ∀ {es : List D} {vs : List Value} {k : Nat}, RelL w g es vs → zAh k es = true → RelL w g (flatD es) (flat vs) ∧ ∀ y ∈ flat vs, oneC y
 | [], vs, _, h, _ => by rw [h.inv_nil]; exact ⟨RelL.nil, by simp [flat]⟩
 | e :: es, vs, k, h, hk => by
   obtain ⟨y, ys, rfl, h1, h2⟩ := h.inv
   simp only [zAh, Bool.and_eq_true, beq_iff_eq] at hk
   obtain ⟨q1, q2⟩ := h1.cells hk.1.1
   obtain ⟨q3, q4⟩ := zCt h2 hk.2
   refine ⟨q1.append q3, fun z hz => ?_⟩
   simp only [flat, List.mem_append] at hz
   rcases hz with hz | hz
   ·exact q2 z hz
   ·exact q4 z hz
theorem zBm {es : List D} {vs : List Value} {k : Nat} (h : RelL w g es vs) (hk : zAh k es = true) : ∀ y ∈ vs, y.cells.size = k := by
 intro y hy
 obtain ⟨i, hi⟩ := List.mem_iff_getElem?.1 hy
 obtain ⟨d, h1, h2⟩ := h.get' hi
 obtain ⟨q1, q2⟩ := elemsK_mem hk d (List.mem_of_getElem? h1)
 rw [h2.cells_size q1, q2]
theorem zFx {k : Nat} : ∀ {es : List D} (n : Nat), zAh k es = true → zAh k (es.take n) = true
 | [], n, _ => by simp [zAh]
 | e :: es, 0, _ => by simp [zAh]
 | e :: es, n + 1, h => by
   simp only [zAh, Bool.and_eq_true] at h
   simp only [List.take_succ_cons, zAh, Bool.and_eq_true]
   exact ⟨h.1, zFx n h.2⟩
theorem zEx {k : Nat} : ∀ {es : List D}, zAh k es = true → (flatD es).length = es.length * k
 | [], _ => by simp [flatD]
 | e :: es, h => by
   simp only [zAh, Bool.and_eq_true, beq_iff_eq] at h
   simp only [flatD, List.length_append, List.length_cons, zEx h.2, h.1.2, Nat.add_mul]
   omega
structure Elems (P : Program) (w : World) (g : Gh) (k : Nat) (x : Value) (es : List D) (vs : List Value) : Prop where
 rel : RelL w g es vs
 len : ∀ w1 : World, (Builtin.lenOf x).run P w1 = .ok es.length w1
 cells : ∀ n, n ≤ es.length → ∀ w1 : World, w1.heap = w.heap → (Builtin.firstCells k n x).run P w1 = .ok ((flat vs).take (n * k)).toArray w1
theorem cell_heap {w w1 : World} (h : w1.heap = w.heap) (a : Addr) : w1.cell? a = w.cell? a := by simp [World.cell?, h]
theorem zBf {a : Addr} {ys : List Value} {n k len cap : Nat} (ha : ys ≠ [] → a.spot = none) (hl : n * k ≤ ys.length) (h : ∀ (j : Nat) y, ys[j]? = some y → w.cell? ⟨a.block, a.off + j, none⟩ = some y) (w1 : World) (hw : w1.heap = w.heap) :
 (Builtin.firstCells k n (.slice (some a) len cap)).run P w1 = .ok (ys.take (n * k)).toArray w1 := by
 refine run_firstCells_some (P := P) w1 k n a len cap _ (by simp; omega) fun j v hj => ?_
 rw [List.getElem?_take] at hj
 split at hj
 ·rw [add_eq a (ha fun e => by rw [e] at hj; simp at hj), cell_heap hw]; exact h j v hj
 ·cases hj
theorem ints_rel (s : List UInt8) : RelL w g (s.map fun b => D.int .u8 b.toNat) (s.map fun b => Value.int .u8 b.toNat) := by
 induction s with
 | nil => exact RelL.nil
 | cons b s ih => exact RelL.cons (by simp [Rel]) ih
theorem ints_flat (s : List UInt8) : flat (s.map fun b => Value.int .u8 b.toNat) = s.map fun b => Value.int .u8 b.toNat := by
 induction s with
 | nil => rfl
 | cons b s ih => simp [flat, Value.cells, ih]
theorem elems_val {hp : Hp} {k : Nat} {d : D} {x : Value} {es : List D} (hh : HeapRel w g hp) (hx : Rel w g d x) (he : zA4 hp k d = some es) (hK : zAh k es = true) : ∃ vs, Elems P w g k x es vs := by
 cases d <;> try (simp only [zA4] at he; cases he; done)
 case str s =>
  simp only [zA4, Option.some.injEq] at he
  subst he
  simp only [Rel] at hx
  subst hx
  have hk : s = [] ∨ k = 1 := by
   cases s with
   | nil => exact .inl rfl
   | cons b s => right; simp [zAh, D.cells] at hK; exact hK.1.2.symm
  refine ⟨s.map fun b => .int .u8 b.toNat, ints_rel s, fun w1 => by simp [Builtin.lenOf, zF7], fun n hn w1 hw => ?_⟩
  simp only [List.length_map] at hn
  have hnk : n * k = n := by
   rcases hk with q | q
   ·subst q; simp at hn; subst hn; simp
   ·subst q; simp
  have hex : ByteArray.extract ⟨s.toArray⟩ 0 n = ⟨(s.take n).toArray⟩ := by
   rw [Lib.extract_eq]; simp
  simp only [Builtin.firstCells, Sem.run_pure, hex, ints_flat, hnk]
  congr 1
  apply Array.ext'
  simp [List.map_take]
 case lit v =>
  cases v <;> try (simp only [zA4] at he; cases he; done)
  rename_i a n c
  cases a <;> cases n <;> cases c <;> try (simp only [zA4] at he; cases he; done)
  simp only [zA4, Option.some.injEq] at he
  subst he
  simp only [Rel] at hx
  obtain ⟨rfl, _⟩ := hx
  exact ⟨[], RelL.nil, fun w1 => by simp [Builtin.lenOf], fun n hn w1 hw => by simp [Builtin.firstCells, flat]⟩
 case slice es' own =>
  simp only [zA4, Option.some.injEq] at he
  subst he
  simp only [Rel] at hx
  obtain ⟨a, cap, k', xs, hx, g2, g3, g4, g5, _⟩ := hx
  have hlen := g3.length
  rcases hx with hx | ⟨hx, rfl, rfl⟩
  ·subst hx
   refine ⟨xs, g3.any, fun w1 => by simp [Builtin.lenOf], fun n hn w1 hw => ?_⟩
   have hfl := zBy xs k' g4
   refine zBf g5.1 ?_ (fun j y hj => (g5.2 j y hj).1) w1 hw
   rw [hfl]
   rcases zFy hK g3 g4 with q | q
   ·subst q; simp at hlen; have : n = 0 := by omega
    subst this; simp
   ·subst q; exact Nat.mul_le_mul_right _ (by omega)
  ·subst hx
   have := g3.inv_nil
   subst this
   exact ⟨[], RelL.nil, fun w1 => by simp [Builtin.lenOf], fun n hn w1 hw => by simp [Builtin.firstCells, flat]⟩
 case sl b k' off len cap =>
  simp only [zA4] at he
  split at he
  case isFalse => cases he
  rename_i hk
  obtain ⟨rfl, hlc⟩ := hk
  split at he
  case h_2 => cases he
  rename_i cs hb
  split at he
  case isFalse => cases he
  rename_i hl
  simp only [Option.some.injEq] at he
  subst he
  simp only [Rel] at hx
  obtain ⟨n, o, h1, rfl, h2⟩ := hx
  obtain ⟨xs, e, h3, h4, h5⟩ := hh.blk b _ n hb h1
  have hlen := h4.length
  obtain ⟨c1, c2, c3⟩ := zE3 (k := k') len (cs.drop off) (xs.drop off) (h4.drop off) (fun y hy => h5 y (List.mem_of_mem_drop hy)) (by simp; omega)
  refine ⟨zFl k' len (xs.drop off), c1, fun w1 => by simp [Builtin.lenOf, zAt], fun m hm w1 hw => ?_⟩
  rw [zAt] at hm
  have hmk : m * k' ≤ len * k' := Nat.mul_le_mul_right _ hm
  rcases Nat.eq_zero_or_pos (m * k') with hz | hz
  ·simp [Builtin.firstCells, hz]
   rfl
  ·have hm0 : 0 < m := Nat.pos_of_ne_zero fun e => by subst e; simp at hz
   have ho : o = off := h2 (by omega)
   subst ho
   refine zBf (fun _ => rfl) (by rw [c3]; simp; omega) (fun j y hj => ?_) w1 hw
   rw [c3, List.getElem?_take] at hj
   split at hj
   ·rw [List.getElem?_drop] at hj
    rw [zCm h3]; simpa using hj
   ·cases hj
 case gs t n =>
  simp only [zA4] at he
  split at he
  case h_2 => cases he
  rename_i k' cs ht
  split at he
  case isFalse => cases he
  rename_i hk
  obtain ⟨rfl, hl⟩ := hk
  simp only [Option.some.injEq] at he
  subst he
  simp only [Rel] at hx
  obtain ⟨a, cap, T, rfl, hnn, hT, hle, hee⟩ := hx
  obtain ⟨T', hT', ⟨hTk, hTl, hr0, hr⟩, hok⟩ := hh.tokBlk ht
  rw [hT] at hT'; cases hT'
  subst hTk
  have hn : n = T.len := Nat.eq_of_mul_eq_mul_right hok.1 (hl.symm.trans hTl)
  obtain ⟨rfl, rfl, _⟩ := hee hn
  cases hTb : T.blk with
  | none =>
    obtain ⟨q1, q2⟩ := hr0 hTb
    have hn0 : n = 0 := by omega
    subst hn0
    exact ⟨[], by simpa [chunk] using RelL.nil, fun w1 => by simp [Builtin.lenOf, chunk], fun m hm w1 hw => by simp [q2, Builtin.firstCells, flat]⟩
  | some b =>
    obtain ⟨_, ys, e, h1, h2⟩ := hr b hTb
    obtain ⟨had, _, hc, zs, e', h3, h4, h5⟩ := hok.2.2 b hTb
    rw [h1] at h3; cases h3
    have hlen := h2.length
    have hle2 : T.len * T.k ≤ ys.size := by rw [h4]; exact Nat.mul_le_mul_right _ hc
    obtain ⟨c1, c2, c3⟩ := zE3 (k := T.k) n cs _ h2 (fun y hy => h5 y (List.mem_of_mem_take hy)) (by rw [hn]; simp; omega)
    refine ⟨zFl T.k n (ys.toList.take (T.len * T.k)), c1, fun w1 => by simp [Builtin.lenOf, zAt], fun m hm w1 hw => ?_⟩
    rw [zAt] at hm
    have hmk : m * T.k ≤ n * T.k := Nat.mul_le_mul_right _ hm
    have hcl : (flat (zFl T.k n (ys.toList.take (T.len * T.k)))).length = n * T.k := by
     rw [c3, hn]; simp; omega
    rw [had]
    refine zBf (fun _ => rfl) (by rw [hcl]; exact hmk) (fun j y hj => ?_) w1 hw
    rw [c3, List.getElem?_take] at hj
    split at hj
    ·rw [Nat.zero_add, zCm h1]; exact zCd hj
    ·cases hj
theorem setV_append : ∀ (a b cs : List Value) (off : Nat), setV cs off (a ++ b) = setV (setV cs off a) (off + a.length) b
 | [], b, cs, off => by simp [setV]
 | x :: a, b, cs, off => by
   simp only [List.cons_append, setV, List.length_cons]
   rw [setV_append a b]
   congr 1
   omega
theorem fill_seq {k : Nat} : ∀ (vs : List Value) (i : Nat) (xs : Array Value), (∀ v ∈ vs, v.cells.size = k) → (i + vs.length) * k ≤ xs.size →
 Instr.fill (fun i => some (i * k, k)) xs ((List.range' i vs.length).zip vs) = some (setV xs.toList (i * k) (flat vs)).toArray
 | [], i, xs, _, _ => by simp [Instr.fill, flat, setV]
 | v :: vs, i, xs, hk, hl => by
   have hv := hk v (by simp)
   simp only [List.length_cons] at hl
   have hl2 : i * k + k ≤ xs.size := by
    have : (i + 1) * k ≤ (i + (vs.length + 1)) * k := Nat.mul_le_mul_right _ (by omega)
    rw [Nat.add_mul, Nat.one_mul] at this
    omega
   simp only [List.length_cons, List.range'_succ, List.zip_cons_cons, Instr.fill]
   rw [if_neg (by simp; omega)]
   have hstep : (v.cells.zipIdx.foldl (fun cs (p : Value × Nat) => cs.setIfInBounds (i * k + p.2) p.1) xs).toList = setV xs.toList (i * k) v.cells.toList := by
    have := foldl_set v.cells.toList xs 0 (i * k)
    rw [← Array.foldl_toList]
    simpa using this
   have hsz : (v.cells.zipIdx.foldl (fun cs (p : Value × Nat) => cs.setIfInBounds (i * k + p.2) p.1) xs).size = xs.size := by
    rw [← Array.length_toList, hstep, zD6, Array.length_toList]
   have ih := fill_seq vs (i + 1) (v.cells.zipIdx.foldl (fun cs (p : Value × Nat) => cs.setIfInBounds (i * k + p.2) p.1) xs) (fun u hu => hk u (by simp [hu])) (by rw [hsz]; rw [show i + 1 + vs.length = i + (vs.length + 1) by omega]; exact hl)
   rw [ih, hstep, flat, setV_append]
   congr 3
   rw [Nat.add_mul, Nat.one_mul]; simp; omega
theorem setV_all (vs cs : List Value) (h : vs.length = cs.length) : setV cs 0 vs = vs := by
 rw [zEm vs cs 0 (by omega)]
 simp [h]
def zDr (z : List Value) : Nat → List Value
 | 0 => []
 | n + 1 => z ++ zDr z n
theorem zeros_rel {z : List D} {zv : List Value} (h : RelL w g z zv) : ∀ n, RelL w g (zeros z n) (zDr zv n)
 | 0 => RelL.nil
 | n + 1 => h.append (zeros_rel h n)
theorem zerosV_one {zv : List Value} (h : ∀ y ∈ zv, oneC y) : ∀ n, ∀ y ∈ zDr zv n, oneC y
 | 0, y, hy => by simp [zDr] at hy
 | n + 1, y, hy => by
   simp only [zDr, List.mem_append] at hy
   rcases hy with q | q
   ·exact h y q
   ·exact zerosV_one h n y q
theorem zF3 (z : List Value) : ∀ n, (zDr z n).length = n * z.length
 | 0 => by simp [zDr]
 | n + 1 => by simp [zDr, zF3 z n, Nat.add_mul]; omega
theorem zerosV_get (z : List Value) : ∀ (n i : Nat), i < n * z.length → (zDr z n)[i]? = z[i % z.length]?
 | 0, i, h => by simp at h
 | n + 1, i, h => by
   simp only [zDr]
   by_cases hi : i < z.length
   ·rw [List.getElem?_append_left hi, Nat.mod_eq_of_lt hi]
   ·rw [List.getElem?_append_right (by omega), zerosV_get z n (i - z.length) (by rw [Nat.add_mul, Nat.one_mul] at h; omega)]
    congr 1
    exact (Nat.mod_eq_sub_mod (by omega)).symm
theorem range_zero (z : Array Value) (n : Nat) : ((Array.range (n * z.size)).map fun i => z[i % z.size]!).toList = zDr z.toList n := by
 apply List.ext_getElem?
 intro i
 by_cases h : i < n * z.size
 ·rw [zerosV_get _ _ _ (by simpa using h)]
  have hz : 0 < z.size := Nat.pos_of_ne_zero fun e => by rw [e] at h; simp at h
  have hm : i % z.size < z.size := Nat.mod_lt _ hz
  simp [h, hm]
 ·have h1 : ((Array.range (n * z.size)).map fun i => z[i % z.size]!).toList.length ≤ i := by simp; omega
  rw [List.getElem?_eq_none h1, List.getElem?_eq_none (by rw [zF3]; simpa using h)]
end
end GoV
end
section
set_option linter.unusedSimpArgs false
set_option maxHeartbeats 1000000
namespace GoV
open Go
theorem Keeps.drawn (w : World) (n : Nat) (r : List Nat) : Keeps w { w with drawn := n } r := ⟨rfl, rfl, rfl, Nat.le_refl _, fun _ _ _ => rfl⟩
theorem Inv.drawn {w0 g0 hp w g} (h : Inv w0 g0 hp w g) (n : Nat) : Inv w0 g0 hp { w with drawn := n } g ∧ Evo w g { w with drawn := n } g := by
 have he : Evo w g { w with drawn := n } g := ⟨fun b o hi => ⟨hi, rfl⟩, fun _ _ h => h, fun _ T h => ⟨T, h, rfl, .inl rfl⟩⟩
 exact ⟨h.step (h.heap.other he rfl rfl (fun _ _ => rfl) (Nat.le_refl _) fun b o ho => .inl ho) he (Keeps.drawn w n _) (fun n hn => .inl hn) (fun n hn => .inl hn) (fun b o ho => .inl ho), he⟩
section
variable {w0 : World} {g0 : Gh} {hp : Hp} {w : World} {g : Gh}
def Gh.fix (g : Gh) (b n : Nat) : Gh := { g with I := fun c o => g.I c o ∨ (c = b ∧ o < n) }
def Gh.tok (g : Gh) (T : Tk) : Gh := { g with tk := g.tk ++ [T] }
theorem Inv.newPer (h : Inv w0 g0 hp w g) {es : List D} {vs : List Value} {k : Nat} (hr : RelL w g.cl es vs) (hK : zAh k es = true) (ys : Array Value) (e : TypeId) (fr : Nat × Nat) (hys : ys.toList.take (flat vs).length = flat vs) :
 Inv w0 g0 hp (w.alloc (.cells ys e fr)) (g.fix w.heap.size (flat vs).length) ∧ Evo w g (w.alloc (.cells ys e fr)) (g.fix w.heap.size (flat vs).length) ∧
  RelL (w.alloc (.cells ys e fr)) (g.fix w.heap.size (flat vs).length).cl es vs ∧ (∀ y ∈ vs, y.cells.size = k) ∧
  At (w.alloc (.cells ys e fr)) (g.fix w.heap.size (flat vs).length).I ⟨w.heap.size, 0, none⟩ (flat vs) := by
 obtain ⟨h1, e1⟩ := h.alloc (.cells ys e fr)
 have hne : w.heap.size ∉ g.own := fun hm => by have := h.heap.own_lt _ hm; omega
 obtain ⟨h2, e2⟩ := h1.more w.heap.size (fun o => o < (flat vs).length) (by simp) hne h.keeps.size
 obtain ⟨_, ho⟩ := zCt hr hK
 refine ⟨h2, e1.trans e2, RelL.evo _ (e1.trans e2).cl hr, zBm hr hK, fun _ => rfl, fun j y hj => ?_⟩
 have hlt := zAd hj
 refine ⟨?_, .inr ⟨rfl, by simpa using hlt⟩, ho y (List.mem_of_getElem? hj)⟩
 rw [zCm (zBe w _), Nat.zero_add, ← Array.getElem?_toList]
 rw [← hys, List.getElem?_take, if_pos hlt] at hj
 exact hj
theorem Inv.tokPer (h : Inv w0 g0 hp w g) {b cap k len : Nat} {ys : Array Value} {e : TypeId} (hk : 0 < k) (hw : w.heap[b]? = some (.cells ys e (0, 0))) (hs : ys.size = cap * k) (hc : len ≤ cap) (ho : ∀ y ∈ ys.toList, oneC y)
 (hb : b ∉ g.own) (hnew : w0.heap.size ≤ b) (hI : ∀ o, g.I b o → o < len * k) :
 Inv w0 g0 { hp with tk := hp.tk ++ [.per k len] } w (g.tok ⟨some b, some ⟨b, 0, none⟩, cap, k, len⟩) ∧ Evo w g w (g.tok ⟨some b, some ⟨b, 0, none⟩, cap, k, len⟩) := by
 obtain ⟨h1, h2⟩ := h.heap.newTok ⟨some b, some ⟨b, 0, none⟩, cap, k, len⟩ (.per k len)
  ⟨hk, by simp, fun c hc' => by
   simp at hc'; subst hc'
   exact ⟨rfl, fun hm => hb (List.mem_append.2 (.inl hm)), hc, ys, e, hw, hs, ho⟩⟩
  ⟨rfl, rfl, fun c hc' o hi => by simp at hc'; subst hc'; exact hI o hi⟩
  (fun c hc' => by simp at hc'; subst hc'; exact hb)
 refine ⟨h.ghost h1 (h.evo.trans h2) (fun n hn => .inl hn) (fun n hn => ?_) (fun c o hi => .inl hi), h2⟩
 simp only [Gh.tok, blks, List.filterMap_append, List.mem_append] at hn ⊢
 rcases hn with q | q
 ·exact .inl q
 ·simp [List.filterMap_cons] at q; subst q
  exact .inr hnew
theorem Inv.tokChg (h : Inv w0 g0 hp w g) {b cap k len : Nat} {ys : Array Value} {e : TypeId} {cs : List D} (hk : 0 < k) (hw : w.heap[b]? = some (.cells ys e (0, 0))) (hs : ys.size = cap * k) (hc : len ≤ cap) (ho : ∀ y ∈ ys.toList, oneC y)
 (hb : b ∉ g.own) (hnew : w0.heap.size ≤ b) (hI : ∀ o, ¬ g.I b o) (hl : cs.length = len * k) (hr : RelL w g cs (ys.toList.take (len * k))) :
 Inv w0 g0 { hp with tk := hp.tk ++ [.chg k cs] } w (g.tok ⟨some b, some ⟨b, 0, none⟩, cap, k, len⟩) ∧ Evo w g w (g.tok ⟨some b, some ⟨b, 0, none⟩, cap, k, len⟩) := by
 have he : Evo w g w (g.tok ⟨some b, some ⟨b, 0, none⟩, cap, k, len⟩) := by
  refine ⟨fun c o hi => ⟨hi, rfl⟩, fun _ _ h => h, fun t U h => ⟨U, ?_, rfl, .inl rfl⟩⟩
  show (g.tk ++ [_])[t]? = some U
  rw [List.getElem?_append_left (zAd h)]; exact h
 obtain ⟨h1, h2⟩ := h.heap.newTok ⟨some b, some ⟨b, 0, none⟩, cap, k, len⟩ (.chg k cs)
  ⟨hk, by simp, fun c hc' => by
   simp at hc'; subst hc'
   exact ⟨rfl, fun hm => hb (List.mem_append.2 (.inl hm)), hc, ys, e, hw, hs, ho⟩⟩
  ⟨rfl, hl, by simp, fun c hc' => by simp at hc'; subst hc'; exact ⟨hI, ys, e, hw, RelL.evo _ he hr⟩⟩
  (fun c hc' => by simp at hc'; subst hc'; exact hb)
 refine ⟨h.ghost h1 (h.evo.trans h2) (fun n hn => .inl hn) (fun n hn => ?_) (fun c o hi => .inl hi), h2⟩
 simp only [Gh.tok, blks, List.filterMap_append, List.mem_append] at hn ⊢
 rcases hn with q | q
 ·exact .inl q
 ·simp [List.filterMap_cons] at q; subst q
  exact .inr hnew
theorem Inv.tokFull (h : Inv w0 g0 hp w g) {k len : Nat} {a : Option Addr} (hk : 0 < k) (V : Tv) (hV : V = .per k len ∨ (V = .chg k [] ∧ len = 0 ∧ a = none)) :
 Inv w0 g0 { hp with tk := hp.tk ++ [V] } w (g.tok ⟨none, a, len, k, len⟩) ∧ Evo w g w (g.tok ⟨none, a, len, k, len⟩) := by
 obtain ⟨h1, h2⟩ := h.heap.newTok ⟨none, a, len, k, len⟩ V ⟨hk, by simp, by simp⟩ (by rcases hV with rfl | ⟨rfl, rfl, rfl⟩ <;> exact ⟨rfl, by simp, by simp⟩) (by simp)
 refine ⟨h.ghost h1 (h.evo.trans h2) (fun n hn => .inl hn) (fun n hn => ?_) (fun c o hi => .inl hi), h2⟩
 simp only [Gh.tok, blks, List.filterMap_append, List.mem_append] at hn ⊢
 rcases hn with q | q
 ·exact .inl q
 ·simp [List.filterMap_cons] at q
theorem zDp (g : Gh) (T : Tk) : (g.tok T).tk[g.tk.length]? = some T := by
 show (g.tk ++ [T])[g.tk.length]? = some T
 rw [List.getElem?_append_right (Nat.le_refl _)]; simp
theorem zD5 {l : List Tk} {t : Nat} {T T' : Tk} (h : l[t]? = some T) : (l.set t T')[t]? = some T' := by
 rw [List.getElem?_set, if_pos rfl, if_pos (zAd h)]
theorem Inv.goTok {w'} (h : Inv w0 g0 hp w g) {t : Nat} {T T' : Tk} {V' : Tv} {I' : Nat → Nat → Prop} (hT : g.tk[t]? = some T) (hk : T'.k = T.k) (hT' : T' = T ∨ T.len < T'.len)
 (hb : ∀ n, n < w.heap.size → T.blk ≠ some n → w'.heap[n]? = w.heap[n]?) (hs : w.heap.size ≤ w'.heap.size) (hos : w'.os = w.os) (htp : w'.tape = w.tape) (hout : w'.output = w.output)
 (hn : ∀ n, T'.blk = some n → T.blk = some n ∨ w.heap.size ≤ n) (hI0 : ∀ b o, g.I b o → I' b o ∧ w'.cell? ⟨b, o, none⟩ = w.cell? ⟨b, o, none⟩) (hI : ∀ b o, I' b o → g.I b o ∨ (T'.blk = some b ∧ b < w'.heap.size))
 (hok : TkOk w' ⟨g.r, g.tk.set t T', I'⟩ T') (hV : Evo w g w' ⟨g.r, g.tk.set t T', I'⟩ → TvRel w' ⟨g.r, g.tk.set t T', I'⟩ T' V') :
 Inv w0 g0 { hp with tk := hp.tk.set t V' } w' ⟨g.r, g.tk.set t T', I'⟩ ∧ Evo w g w' ⟨g.r, g.tk.set t T', I'⟩ := by
 have hTm := List.mem_of_getElem? hT
 have he : Evo w g w' ⟨g.r, g.tk.set t T', I'⟩ := by
  refine ⟨hI0, fun _ _ h => h, fun u U hU => ?_⟩
  by_cases e : t = u
  ·subst e
   rw [hT] at hU; cases hU
   exact ⟨T', zD5 hT, hk, hT'⟩
  ·refine ⟨U, ?_, rfl, .inl rfl⟩
   show (g.tk.set t T')[u]? = some U
   rw [List.getElem?_set, if_neg e]; exact hU
 refine ⟨h.step (h.heap.setTok hT he hb hs hn hI hok (hV he)) he ⟨hos, htp, hout, hs, fun n hlt hno => hb n hlt fun e => hno (List.mem_append.2 (.inr (mem_blks.2 ⟨T, hTm, e⟩)))⟩ (fun n hm => .inl hm) (fun n hm => ?_) (fun b o ho => ?_), he⟩
 ·rcases blks_set_new hm with q | q
  ·exact .inl q
  ·rcases hn n q with q1 | q1
   ·exact .inl (mem_blks.2 ⟨T, hTm, q1⟩)
   ·exact .inr q1
 ·rcases hI b o ho with q | q
  ·exact .inl q
  ·rcases hn b q.1 with q1 | q1
   ·exact .inr (.inr (mem_blks.2 ⟨T, hTm, q1⟩))
   ·exact .inr (.inl q1)
end
section
variable {P : Program} {w : World} {t u ty e : TypeId} {i : TypeInfo} {z : Value}
theorem app_room (ht : P.underlying t = some (.slice e)) (hu : (∃ e', P.underlying u = some (.slice e')) ∨ P.underlying u = some .string) (hi : P.info? e = some i)
 {b sLen sCap m : Nat} {cur : Array Value} {x : Value} {news : List Value} {e0 : TypeId} (hg : w.heap[b]? = some (.cells cur e0 (0, 0)))
 (hlen : (Builtin.lenOf x).run P w = .ok m w) (hf : (Builtin.firstCells i.size m x).run P w = .ok news.toArray w) (h1 : ∀ y ∈ news, oneC y)
 (hroom : sLen + m ≤ sCap) (hfit : sLen * i.size + news.length ≤ cur.size) :
 (Builtin.append_ #[t, u] ty #[.slice (some ⟨b, 0, none⟩) sLen sCap, x]).run P w =
  .ok (.slice (some ⟨b, 0, none⟩) (sLen + m) sCap) (w.setRow b (setV cur.toList (sLen * i.size) news).toArray) := by
 have hst := run_storeCells_at P b (sLen * i.size) e0 news 0 cur w hg (by simpa using hfit) h1
 simp only [Nat.add_zero] at hst
 rw [← zEm news cur.toList (sLen * i.size) (by simpa using hfit)] at hst
 rcases hu with ⟨e', hu⟩ | hu
 iterate 2
  ·simp [Builtin.append_, run_underlying ht, run_underlying hu, Go.sizeOf, typeInfo, hi, hlen, hroom, hf, Addr.add_lit, hst]
theorem app_grow (ht : P.underlying t = some (.slice e)) (hu : (∃ e', P.underlying u = some (.slice e')) ∨ P.underlying u = some .string) (hi : P.info? e = some i) (hz : i.zero = some z)
 {base : Option Addr} {sLen sCap m : Nat} {x : Value} {olds news : List Value} (hlen : (Builtin.lenOf x).run P w = .ok m w) (hf : ∀ w1 : World, w1.heap = w.heap → (Builtin.firstCells i.size m x).run P w1 = .ok news.toArray w1)
 (hfo : ∀ w1 : World, w1.heap = w.heap → (Builtin.firstCells i.size sLen (.slice base sLen sCap)).run P w1 = .ok olds.toArray w1)
 (hg : sCap < sLen + m) (hb : (sLen + m) * i.bytes ≤ 140737488355328) (hb2 : sLen + m ≤ 140737488355328) :
 (Builtin.append_ #[t, u] ty #[.slice base sLen sCap, x]).run P w =
  .ok (.slice (some ⟨w.heap.size, 0, none⟩) (sLen + m) (grownCap w (sLen + m) sCap e))
   (w.drew.alloc (.cells (olds.toArray ++ news.toArray ++ Builtin.zeroCells z.cells (grownCap w (sLen + m) sCap e - (sLen + m))) e (0, 0))) := by
 have hfit := growslice_fits hg hb
 have hn : ¬ (sLen + m ≤ sCap) := by omega
 have h63' : ¬ (9223372036854775807 < ((sLen : Int) + (m : Int))) := by omega
 have h48' : ¬ (281474976710656 < Builtin.nextslicecap (sLen + m) sCap * i.bytes) := by omega
 have h1 := hf w.drew rfl
 have h2 := hfo w.drew rfl
 rcases hu with ⟨e', hu⟩ | hu
 iterate 2
  ·simp [Builtin.append_, run_underlying ht, run_underlying hu, Go.sizeOf, typeInfo, zeroValue, hi, hz, hlen, hn, h63', h48', Question.forced, h1, h2, newRow, grownCap]
   congr 2; apply Array.ext'; simp [List.append_assoc]
theorem zeroCells_one {z : Value} (h : ∀ y ∈ z.cells.toList, oneC y) (n : Nat) : ∀ y ∈ (Builtin.zeroCells z.cells n).toList, oneC y := by
 intro y hy
 simp only [Builtin.zeroCells, Array.toList_map, List.mem_map] at hy
 obtain ⟨j, hj, rfl⟩ := hy
 have hj : j < n * z.cells.size := by simpa using hj
 have hz : 0 < z.cells.size := Nat.pos_of_ne_zero fun e => by rw [e] at hj; simp at hj
 have hm : j % z.cells.size < z.cells.size := Nat.mod_lt _ hz
 simp only [hm, getElem!_pos]
 exact h _ (by simp)
end
end GoV
end
section
set_option linter.unusedSimpArgs false
set_option maxHeartbeats 1000000
namespace GoV
open Go
section
variable {P : Program} {ρ : Operand → Value} {o : Oper} {w0 : World} {g0 : Gh} {hp : Hp} {w : World} {g : Gh} {K : D → Hp → Prop}
theorem zBx {c : Call} {b : Builtin} (hop : o.op = .call c) (hc : c.callee = .builtin b) :
 ∃ cs, (execOp ρ o).run P w = (builtin b c.argTypes o.type cs (c.args.map ρ)).run P w := by
 simp only [execOp, hop, resolve, hc, Sem.run_bind, Sem.run_pure, Result.andThen_ok, invoke]
 exact ⟨_, rfl⟩
theorem args1 {c : Call} {x : Operand} (hx : c.args.toList = [x]) : c.args = #[x] := by apply Array.ext'; simpa using hx
theorem args2 {c : Call} {x y : Operand} (hx : c.args.toList = [x, y]) : c.args = #[x, y] := by apply Array.ext'; simpa using hx
structure ElemT (P : Program) (t e : TypeId) (i : TypeInfo) (zv : Value) (z : List D) : Prop where
 ht : P.underlying t = some (.slice e)
 hi : P.info? e = some i
 hz : i.zero = some zv
 hd : toDs zv.cells.toList = some z
 hl : z.length = i.size
theorem ElemT.cells {t e : TypeId} {i : TypeInfo} {zv : Value} {z : List D} (h : ElemT P t e i zv z) (w : World) (g : Gh) : RelL w g z zv.cells.toList ∧ (∀ y ∈ zv.cells.toList, oneC y) ∧ zv.cells.size = i.size := by
 obtain ⟨h1, h2⟩ := zDa (w := w) (g := g) h.hd
 refine ⟨h1.any, h2, ?_⟩
 rw [← h.hl, ← h1.length]; simp
theorem elemsK_erL {k : Nat} : ∀ {es : List D}, zAh k es = true → D.cL es = true → zAh k (D.erL es) = true
 | [], _, _ => rfl
 | e :: es, h, hc => by
   simp only [zAh, Bool.and_eq_true, beq_iff_eq, D.erL, D.cL] at h hc ⊢
   refine ⟨?_, elemsK_erL h.2 hc.2⟩
   obtain ⟨⟨h1, h2⟩, _⟩ := h
   have erl : ∀ l : List D, (D.erL l).length = l.length := by
    intro l
    induction l with
    | nil => rfl
    | cons a l ih => simp [D.erL, ih]
   cases e <;> simp_all [D.er, D.iV, D.cells]
theorem run_bs {t e : TypeId} {len : Nat} {ps : Array (Nat × Value)} {cells : Array Value} {i : TypeInfo} {z : Value} (hu : P.underlying t = some (.slice e)) (hi : P.info? e = some i) (hz : i.zero = some z) (h16 : ¬ 16777216 < len * i.size) (hpos : ¬ len * i.size = 0)
 (h : Instr.fill (fun j => some (j * i.size, i.size)) ((Array.range (len * i.size)).map (z.cells[· % z.cells.size]!)) ps.toList = some cells) :
 (Instr.buildSlice t len ps).run P w = .ok (.slice (some ⟨w.heap.size, 0, none⟩) len len) (w.alloc (.cells cells e (0, 0))) := by
 simp [Instr.buildSlice, run_underlying hu, Go.sizeOf, h16, hpos, Go.zeroValue, typeInfo, hi, hz, h, newRow]
theorem snd_bsl {t e : TypeId} {len k : Nat} {parts : Array (Nat × Operand)} {zd : List D} (hop : o.op = .buildSlice t len parts) (hu : P.underlying t = some (.slice e)) (hk : szOf P e = some k) (hz : zCc P e = some zd) (hzl : zd.length = k) (hk0 : 0 < k)
 (hp' : parts.toList.map (·.1) = List.range len)
 (hi : Inv w0 g0 hp w g) {ds : List D} (hr : RelL w g ds ((parts.toList.map (·.2)).map ρ)) (h : opWp (.bsl k) ds hp K) : Done P ρ o w0 g0 w g K := by
 simp only [opWp] at h
 obtain ⟨hK, hl16, h⟩ := h
 obtain ⟨i, zv, h1, h2, h3⟩ := zB6 hz
 obtain ⟨g1, g2⟩ := zDa (w := w) (g := g) h3
 have hik : i.size = k := by unfold szOf at hk; simp [h1] at hk; exact hk
 have hzs : zv.cells.size = k := by rw [← hzl, ← g1.length]; simp
 have hlen := hr.length
 have hpl : parts.toList.length = len := by have := congrArg List.length hp'; simpa using this
 have hdl : ds.length = len := by rw [← hlen]; simpa using hpl
 obtain ⟨f1, f2⟩ := zCt hr hK
 have hsz := zBm hr hK
 have hfl := zBy _ k hsz
 have hzip : (parts.map fun (i, x) => (i, ρ x)).toList = (List.range' 0 ((parts.toList.map (·.2)).map ρ).length).zip ((parts.toList.map (·.2)).map ρ) := by
  have e1 : (parts.map fun (i, x) => (i, ρ x)).toList = (parts.toList.map (·.1)).zip ((parts.toList.map (·.2)).map ρ) := by
   rw [Array.toList_map]
   generalize parts.toList = l
   induction l with
   | nil => rfl
   | cons a l ih => simp [ih]
  rw [e1, hp', List.range_eq_range']
  congr 2
  simpa using hpl.symm
 have hfill : Instr.fill (fun i => some (i * k, k)) ((Array.range (len * k)).map (zv.cells[· % zv.cells.size]!)) (parts.map fun (i, x) => (i, ρ x)).toList = some (flat ((parts.toList.map (·.2)).map ρ)).toArray := by
  rw [hzip, fill_seq _ 0 _ hsz (by simp only [Nat.zero_add, Array.size_map, Array.size_range]; rw [hlen, hdl]; exact Nat.le_refl _)]
  simp only [Nat.zero_mul]
  rw [setV_all]
  rw [hfl, hlen, hdl]; simp
 have hrun : (execOp ρ o).run P w = .ok (.value (.slice (some ⟨w.heap.size, 0, none⟩) len len)) (w.alloc (.cells (flat ((parts.toList.map (·.2)).map ρ)).toArray e (0, 0))) := by
  subst hik
  by_cases hpos : len * i.size = 0
  ·have h0 : len = 0 := by
    rcases Nat.mul_eq_zero.1 hpos with q | q
    ·exact q
    ·omega
   subst h0
   have hpe : parts = #[] := by
    apply Array.ext'; simpa using List.eq_nil_of_length_eq_zero hpl
   subst hpe
   have ea : (Array.range 0) = #[] := by apply Array.ext'; simp
   simp [execOp, hop, Instr.buildSlice, run_underlying hu, zAx hk, Instr.fill, newRow, flat, ea]
  ·have h16 : ¬ len * i.size > 2 ^ 24 := by rw [← hdl]; omega
   have h16' : ¬ (16777216 < len * i.size) := by omega
   have := run_bs (P := P) (w := w) hu h1 h2 h16' hpos hfill
   simp only [execOp, hop, Sem.run_bind, this, Result.andThen_ok, Sem.run_pure]
 rcases h with ⟨hc, h⟩ | h
 ·obtain ⟨q1, q2, q3, q4, q5⟩ := hi.newPer (RelL.closed _ hc hr) (elemsK_erL hK hc) (flat ((parts.toList.map (·.2)).map ρ)).toArray e (0, 0) (by simp)
  refine ⟨_, _, _, _, _, h, q1, q2, ?_, .inl hrun⟩
  simp only [Rel]
  refine ⟨_, len, k, _, .inl ?_, ?_, q3, q4, q5, ?_⟩
  ·rw [← q3.length, hlen, hdl]
  ·rw [← q3.length, hlen, hdl]; exact Nat.le_refl _
  ·show len = (D.erL ds).length
   rw [← q3.length, hlen, hdl]
 ·obtain ⟨q1, q2⟩ := hi.newBlk (.cells (flatD ds)) (.cells (flat ((parts.toList.map (·.2)).map ρ)).toArray e (0, 0)) fun w' g' he => ⟨_, e, rfl, RelL.evo _ he f1, f2⟩
  refine ⟨_, _, _, _, _, h, q1, q2, ?_, .inl hrun⟩
  simp only [Rel]
  refine ⟨w.heap.size, 0, ?_, by rw [hdl], fun _ => rfl⟩
  rw [hi.heap.len, List.getElem?_append_right (Nat.le_refl _)]; simp
theorem own_fresh (hi : Inv w0 g0 hp w g) : w.heap.size ∉ g.own := fun hm => by have := hi.heap.own_lt _ hm; omega
theorem I_fresh (hi : Inv w0 g0 hp w g) (o : Nat) : ¬ g.I w.heap.size o := fun hm => by have := (hi.heap.imm _ o hm).1; omega
theorem snd_mks {t e : TypeId} {x y : Operand} {i : TypeInfo} {zv : Value} {z : List D} (hop : o.op = .makeSlice t x y) (hT : ElemT P t e i zv z)
 (hi : Inv w0 g0 hp w g) {ds : List D} (hr : RelL w g ds [ρ x, ρ y]) (h : opWp (.mks i.size i.bytes z) ds hp K) : Done P ρ o w0 g0 w g K := by
 obtain ⟨a, b, rfl, ha, hb⟩ := list2 (f := ρ) hr
 cases a <;> try (simp only [opWp] at h; done)
 cases b <;> try (simp only [opWp] at h; done)
 rename_i k1 l k2 c
 simp only [opWp] at h
 obtain ⟨h0, hlc, ⟨hb1, hb2⟩, h⟩ := h
 simp only [Rel] at ha hb
 obtain ⟨z1, z2, z3⟩ := hT.cells w g
 have hbb : (i.bytes : Int) * c ≤ 281474976710656 := by
  have e1 : (c.toNat : Int) = c := by omega
  have e2 : ((c.toNat * i.bytes : Nat) : Int) = i.bytes * c := by rw [Int.natCast_mul, e1, Int.mul_comm]
  omega
 have hrun := run_make (P := P) w t e i zv hT.ht hT.hi hT.hz k1 k2 l c h0 hlc hbb (by omega)
 have hmc : (madeCells zv.cells (c.toNat * i.size)).toList = zDr zv.cells.toList c.toNat := by
  unfold madeCells; rw [← z3]; exact range_zero zv.cells c.toNat
 have hmo : ∀ y ∈ (madeCells zv.cells (c.toNat * i.size)).toList, oneC y := by rw [hmc]; exact zerosV_one z2 _
 have hms : (madeCells zv.cells (c.toNat * i.size)).size = c.toNat * i.size := size_madeCells _ _
 have hx : (execOp ρ o).run P w = .ok (.value (.slice (some ⟨w.heap.size, 0, none⟩) l.toNat c.toNat)) (w.alloc (.cells (madeCells zv.cells (c.toNat * i.size)) e (0, 0))) := by
  simp [execOp, hop, ha, hb, hrun]
 rcases h with h | ⟨hk0, hl0, h⟩
 ·obtain ⟨q1, q2⟩ := hi.newBlk (.cells (zeros z c.toNat)) (.cells (madeCells zv.cells (c.toNat * i.size)) e (0, 0)) fun w' g' he =>
   ⟨zDr zv.cells.toList c.toNat, e, by rw [← hmc, Array.toArray_toList], zeros_rel (hT.cells w' g').1 _, zerosV_one z2 _⟩
  refine ⟨_, _, _, _, _, h, q1, q2, ?_, .inl hx⟩
  simp only [Rel]
  refine ⟨w.heap.size, 0, ?_, rfl, fun _ => rfl⟩
  rw [hi.heap.len, List.getElem?_append_right (Nat.le_refl _)]; simp
 ·subst hl0
  obtain ⟨q1, q2⟩ := hi.alloc (.cells (madeCells zv.cells (c.toNat * i.size)) e (0, 0))
  have hat := zBe w (.cells (madeCells zv.cells (c.toNat * i.size)) e (0, 0))
  rcases h with h | h
  ·obtain ⟨q3, q4⟩ := q1.tokPer (len := 0) hk0 hat hms (Nat.zero_le _) hmo (own_fresh hi) hi.keeps.size (fun o ho => absurd ho (I_fresh hi o))
   rw [hi.heap.lent] at h
   refine ⟨_, _, _, _, _, h, q3, q2.trans q4, ?_, .inl hx⟩
   simp only [Rel]
   refine ⟨⟨w.heap.size, 0, none⟩, c.toNat, i.size, [], .inl rfl, Nat.zero_le _, RelL.nil, by simp, ⟨fun _ => rfl, by simp [flat]⟩, ?_⟩
   exact ⟨_, zDp g _, rfl, Nat.zero_le _, fun _ => rfl⟩
  ·obtain ⟨q3, q4⟩ := q1.tokChg (len := 0) (cs := []) hk0 hat hms (Nat.zero_le _) hmo (own_fresh hi) hi.keeps.size (I_fresh hi) (by simp) (by simpa using RelL.nil)
   rw [hi.heap.lent] at h
   refine ⟨_, _, _, _, _, h, q3, q2.trans q4, ?_, .inl hx⟩
   simp only [Rel]
   exact ⟨_, _, _, rfl, by simp, zDp g _, Nat.zero_le _, fun _ => ⟨rfl, rfl, by simp⟩⟩
theorem snd_b2s {s t e : TypeId} {x : Operand} (hop : o.op = .convert s t x) (hs : P.underlying s = some (.slice e)) (ht : P.underlying t = some .string) (he : P.underlying e = some (.int .u8))
 (hi : Inv w0 g0 hp w g) {ds : List D} (hr : RelL w g ds [ρ x]) (h : opWp .b2s ds hp K) : Done P ρ o w0 g0 w g K := by
 obtain ⟨a, rfl, ha⟩ := list1 (f := ρ) hr
 simp only [opWp] at h
 obtain ⟨hns, es, bs, h1, h2, h⟩ := h
 have hK : ∀ (es : List D) (bs : List UInt8), bytesOf es = some bs → zAh 1 es = true ∧ ∃ ns : List Int, es = ns.map (D.int .u8) ∧ bs = ns.map fun n => UInt8.ofNat n.toNat := by
  intro es
  induction es with
  | nil => intro bs h; simp [bytesOf] at h; subst h; exact ⟨rfl, [], rfl, rfl⟩
  | cons e es ih =>
    intro bs h
    cases e <;> try (simp only [bytesOf] at h; cases h; done)
    rename_i k n
    cases k <;> try (simp only [bytesOf] at h; cases h; done)
    simp only [bytesOf] at h
    cases hb : bytesOf es with
    | none => simp [hb] at h
    | some r =>
      simp [hb] at h; subst h
      obtain ⟨q1, ns, q2, q3⟩ := ih r hb
      exact ⟨by simp [zAh, D.iV, D.cells, q1], n :: ns, by simp [q2], by simp [q3]⟩
 obtain ⟨k1, ns, k2, k3⟩ := hK es bs h2
 obtain ⟨vs, hel⟩ := elems_val (P := P) hi.heap ha h1 k1
 have hvs : vs = ns.map (Value.int .u8) := by
  have hrel := hel.rel
  rw [k2] at hrel
  have aux : ∀ (ns : List Int) (vs : List Value), RelL w g (ns.map (D.int .u8)) vs → vs = ns.map (Value.int .u8) := by
   intro ns
   induction ns with
   | nil => intro vs h; exact h.inv_nil
   | cons n ns ih =>
     intro vs h
     obtain ⟨y, ys, rfl, h3, h4⟩ := h.inv
     simp only [Rel] at h3
     rw [h3, ih ys h4]; rfl
  exact aux ns vs hrel
 have hfv : flat vs = ns.map (Value.int .u8) := by
  rw [hvs]
  clear hvs hel k2 k3
  induction ns with
  | nil => rfl
  | cons n ns ih => simp [flat, Value.cells, ih]
 have hes : es.length = ns.length := by rw [k2]; simp
 have hc := hel.cells es.length (Nat.le_refl _) w rfl
 have hln := hel.len w
 have hfold : ∀ (ns : List Int) (s : ByteArray), ns.foldl (fun r n => r.push (UInt8.ofNat n.toNat)) s = ⟨(s.data.toList ++ ns.map fun n => UInt8.ofNat n.toNat).toArray⟩ := by
  intro ns
  induction ns with
  | nil => intro s; simp
  | cons n ns ih =>
    intro s
    rw [List.foldl_cons, ih]
    congr 1
    simp [ByteArray.push, List.append_assoc]
 refine zDl hi h ?_
 rw [k3]
 have hlen : (flat vs).take (es.length * 1) = ns.map (Value.int .u8) := by
  rw [hfv, Nat.mul_one, hes, ← List.length_map (f := Value.int .u8) (as := ns), List.take_length]
 rw [hlen] at hc
 cases hx : ρ x <;> simp only [hx, Builtin.lenOf, run_stuck, Sem.run_pure] at hln <;> try (cases hln; done)
 case string s =>
  exfalso
  rw [hx] at ha
  cases a <;> try (simp only [zA4] at h1; cases h1; done)
  case str => simp [isStr] at hns
  case lit v =>
   simp only [Rel] at ha
   rw [← ha.1] at h1
   simp [zA4] at h1
  all_goals simp [Rel] at ha
 case slice ad n cap =>
  simp only [Result.ok.injEq, and_true] at hln
  subst hln
  cases ad with
  | none =>
    have : ns = [] := by
     simp only [hx, Builtin.firstCells, Sem.run_pure, Result.ok.injEq, and_true] at hc
     have := congrArg Array.toList hc
     simpa using this.symm
    subst this
    simp [execOp, hop, hx, convert, run_underlying hs, run_underlying ht, run_underlying he, Conv.bytesToString]
    rfl
  | some ad =>
    simp only [hx, Builtin.firstCells, Nat.mul_one] at hc
    have hb := run_bytesToString (P := P) w ad es.length cap ns hc
    rw [hfold] at hb
    simp [execOp, hop, hx, convert, run_underlying hs, run_underlying ht, run_underlying he, hb]
end
end GoV
end
section
set_option linter.unusedSimpArgs false
set_option maxHeartbeats 1000000
namespace GoV
open Go
section
variable {P : Program} {ρ : Operand → Value} {o : Oper} {w0 : World} {g0 : Gh} {hp : Hp} {w : World} {g : Gh} {K : D → Hp → Prop}
theorem take_flat {vs : List Value} {n k : Nat} (h : (flat vs).length = n * k) : (flat vs).take (n * k) = flat vs := by rw [← h, List.take_length]
theorem Elems.all {k : Nat} {x : Value} {es : List D} {vs : List Value} (h : Elems P w g k x es vs) (hK : zAh k es = true) :
 (∀ w1 : World, (Builtin.lenOf x).run P w1 = .ok es.length w1) ∧ (∀ w1 : World, w1.heap = w.heap → (Builtin.firstCells k es.length x).run P w1 = .ok (flat vs).toArray w1) ∧ (flat vs).length = es.length * k ∧ vs.length = es.length := by
 have hl := h.rel.length
 have hf := zBy vs k (zBm h.rel hK)
 rw [hl] at hf
 refine ⟨h.len, fun w1 hw => ?_, hf, hl⟩
 have := h.cells es.length (Nat.le_refl _) w1 hw
 rw [take_flat hf] at this
 exact this
structure Grown (P : Program) (w w' : World) (e : TypeId) (k need cap : Nat) (cs : List Value) (ys : Array Value) : Prop where
 eq : w' = (w.drew).alloc (.cells ys e (0, 0))
 size : ys.size = cap * k
 cap : need ≤ cap
 take : ys.toList.take cs.length = cs
 one : ∀ y ∈ ys.toList, oneC y
theorem grown_mk {t u ty e : TypeId} {i : TypeInfo} {zv : Value} {z : List D} (hT : ElemT P t e i zv z) (hu : (∃ e', P.underlying u = some (.slice e')) ∨ P.underlying u = some .string)
 {base : Option Addr} {sLen sCap m : Nat} {x : Value} {olds news : List Value} (hlen : (Builtin.lenOf x).run P w = .ok m w) (hf : ∀ w1 : World, w1.heap = w.heap → (Builtin.firstCells i.size m x).run P w1 = .ok news.toArray w1)
 (hfo : ∀ w1 : World, w1.heap = w.heap → (Builtin.firstCells i.size sLen (.slice base sLen sCap)).run P w1 = .ok olds.toArray w1)
 (hg : sCap < sLen + m) (hb : zB3 (sLen + m) i.bytes) (ho : olds.length = sLen * i.size) (hn : news.length = m * i.size) (h1 : ∀ y ∈ olds, oneC y) (h2 : ∀ y ∈ news, oneC y) :
 ∃ cap ys w', (Builtin.append_ #[t, u] ty #[.slice base sLen sCap, x]).run P w = .ok (.slice (some ⟨w.heap.size, 0, none⟩) (sLen + m) cap) w' ∧ Grown P w w' e i.size (sLen + m) cap (olds ++ news) ys := by
 obtain ⟨z1, z2, z3⟩ := hT.cells w ⟨[], [], fun _ _ => False⟩
 have hge := grownCap_ge w (sLen + m) sCap e
 refine ⟨_, _, _, app_grow hT.ht hu hT.hi hT.hz hlen hf hfo hg hb.1 hb.2, rfl, ?_, hge, ?_, ?_⟩
 ·simp only [Array.size_append, List.size_toArray, size_zeroCells, z3, ho, hn, ← Nat.add_mul]
  congr 1; omega
 ·simp only [Array.toList_append, List.append_assoc]
  rw [← List.append_assoc]; exact List.take_left
 ·intro y hy
  simp only [Array.toList_append, List.mem_append] at hy
  rcases hy with (hy | hy) | hy
  ·exact h1 y hy
  ·exact h2 y hy
  ·exact zeroCells_one z2 _ y hy
theorem flat_one {es : List D} {vs : List Value} {k : Nat} (h : RelL w g es vs) (hk : zAh k es = true) : ∀ y ∈ flat vs, oneC y := (zCt h hk).2
theorem drew_eq (w : World) : w.drew = { w with drawn := w.drawn + 1 } := rfl
theorem done_grown (hi : Inv w0 g0 hp w g) {w' : World} {e : TypeId} {k cap : Nat} {ys : Array Value} {es : List D} {vs : List Value} (hr : RelL w g.cl es vs) (hK : zAh k es = true)
 (hg : Grown P w w' e k es.length cap (flat vs) ys) (hx : (execOp ρ o).run P w = .ok (.value (.slice (some ⟨w.heap.size, 0, none⟩) es.length cap)) w')
 (h : K (.slice es .no) hp) : Done P ρ o w0 g0 w g K := by
 obtain ⟨rfl, hsz, hcap, htk, hone⟩ := hg
 obtain ⟨d1, d2⟩ := hi.drawn (w.drawn + 1)
 rw [← drew_eq] at d1 d2
 obtain ⟨q1, q2, q3, q4, q5⟩ := d1.newPer (RelL.evo _ d2.cl hr) hK ys e (0, 0) htk
 have hsd : w.drew.heap.size = w.heap.size := rfl
 rw [hsd] at q1 q2 q3 q5
 refine ⟨_, _, _, _, _, h, q1, d2.trans q2, ?_, .inl hx⟩
 simp only [Rel]
 exact ⟨_, cap, k, vs, .inl rfl, hcap, q3, q4, q5, trivial⟩
theorem done_via {g2 : Gh} (he : Evo w g w g2) (h : Done P ρ o w0 g0 w g2 K) : Done P ρ o w0 g0 w g K := by
 obtain ⟨d, hp', g', v, w', h1, h2, h3, h4⟩ := h
 exact ⟨d, hp', g', v, w', h1, h2, he.trans h3, h4⟩
theorem setV_take_pre {news : List Value} {cs : List Value} {off : Nat} (h : off + news.length ≤ cs.length) : (setV cs off news).take (off + news.length) = cs.take off ++ news := by
 rw [zEm news cs off h]
 rw [show off + news.length = (cs.take off ++ news).length by simp; omega]
 exact List.take_left
theorem zGo {k : Nat} : ∀ {a b : List D}, zAh k a = true → zAh k b = true → zAh k (a ++ b) = true
 | [], _, _, h => h
 | x :: a, b, h, h' => by
   simp only [zAh, Bool.and_eq_true, List.cons_append] at h ⊢
   exact ⟨h.1, zGo h.2 h'⟩
structure Land (w w' : World) (g : Gh) (T : Tk) (e : TypeId) (b cap need : Nat) (ys : Array Value) (cs : List Value) : Prop where
 at_ : w'.heap[b]? = some (.cells ys e (0, 0))
 other : ∀ n, n < w.heap.size → T.blk ≠ some n → w'.heap[n]? = w.heap[n]?
 keep : ∀ c o, g.I c o → w'.cell? ⟨c, o, none⟩ = w.cell? ⟨c, o, none⟩
 size : w.heap.size ≤ w'.heap.size
 os : w'.os = w.os
 tape : w'.tape = w.tape
 output : w'.output = w.output
 new : (T.blk = some b ∧ cap = T.cap) ∨ (w.heap.size ≤ b ∧ T.len < need)
 ysz : ys.size = cap * T.k
 cap : need ≤ cap
 take : ys.toList.take cs.length = cs
 one : ∀ y ∈ ys.toList, oneC y
theorem app_tok {t u ty e : TypeId} {i : TypeInfo} {zv : Value} {z : List D} (hT : ElemT P t e i zv z) (hu : (∃ e', P.underlying u = some (.slice e')) ∨ P.underlying u = some .string)
 (hi : Inv w0 g0 hp w g) {tt : Nat} {T : Tk} {V : Tv} (hgT : g.tk[tt]? = some T) (hV : hp.tk[tt]? = some V) (hk : i.size = T.k)
 {x : Value} {m : Nat} {olds news : List Value} (hlen : (Builtin.lenOf x).run P w = .ok m w) (hf : ∀ w1 : World, w1.heap = w.heap → (Builtin.firstCells i.size m x).run P w1 = .ok news.toArray w1)
 (hfo : ∀ w1 : World, w1.heap = w.heap → (Builtin.firstCells i.size T.len (.slice T.addr T.len T.cap)).run P w1 = .ok olds.toArray w1) (hol : olds.length = T.len * T.k) (hoo : ∀ y ∈ olds, oneC y)
 (hold : ∀ b ys e', T.blk = some b → w.heap[b]? = some (.cells ys e' (0, 0)) → olds = ys.toList.take (T.len * T.k))
 (hb : zB3 (T.len + m) i.bytes) (hn : news.length = m * i.size) (h2 : ∀ y ∈ news, oneC y) :
 (T.blk = none ∧ m = 0 ∧ (Builtin.append_ #[t, u] ty #[.slice T.addr T.len T.cap, x]).run P w = .ok (.slice T.addr T.len T.cap) w) ∨
 ∃ b cap ys w' e', (Builtin.append_ #[t, u] ty #[.slice T.addr T.len T.cap, x]).run P w = .ok (.slice (some ⟨b, 0, none⟩) (T.len + m) cap) w' ∧ Land w w' g T e' b cap (T.len + m) ys (olds ++ news) ∧ (e' = e ∨ ∃ cur, T.blk = some b ∧ w.heap[b]? = some (.cells cur e' (0, 0))) := by
 have hok := hi.heap.tok T (List.mem_of_getElem? hgT)
 have grow : T.cap < T.len + m → ∃ b cap ys w' e', (Builtin.append_ #[t, u] ty #[.slice T.addr T.len T.cap, x]).run P w = .ok (.slice (some ⟨b, 0, none⟩) (T.len + m) cap) w' ∧ Land w w' g T e' b cap (T.len + m) ys (olds ++ news) ∧ (e' = e ∨ ∃ cur, T.blk = some b ∧ w.heap[b]? = some (.cells cur e' (0, 0))) := by
  intro hg
  obtain ⟨cap, ys, w', r1, r2⟩ := grown_mk (ty := ty) (base := T.addr) (sLen := T.len) (sCap := T.cap) (olds := olds) hT hu hlen hf hfo hg hb (by rw [hol, hk]) hn hoo h2
  obtain ⟨rfl, s1, s2, s3, s4⟩ := r2
  have hlt : T.len < T.len + m := by
   cases hTb : T.blk with
   | none => have := hok.2.1 hTb; omega
   | some b => have := (hok.2.2 b hTb).2.2.1; omega
  exact ⟨w.heap.size, cap, ys, _, e, r1, ⟨zBe w.drew _, fun n hlt _ => zA2 w.drew _ n hlt, fun c o ho => cell_of_heap (zA2 w.drew _ c (hi.heap.imm c o ho).1), by simp, rfl, rfl, rfl, .inr ⟨Nat.le_refl _, hlt⟩, by rw [s1, hk], s2, s3, s4⟩, .inl rfl⟩
 cases hTb : T.blk with
 | none =>
   have hlc := hok.2.1 hTb
   by_cases hm : m = 0
   ·subst hm
    refine .inl ⟨rfl, rfl, ?_⟩
    have hn0 : news = [] := List.eq_nil_of_length_eq_zero (by simpa using hn)
    subst hn0
    have hf0 := hf w rfl
    have hle : T.len ≤ T.cap := by omega
    rcases hu with ⟨e', hu⟩ | hu
    iterate 2
     ·cases hA : T.addr <;> simp [Builtin.append_, run_underlying hT.ht, run_underlying hu, Go.sizeOf, typeInfo, hT.hi, hlen, hf0, hle, storeCells]
   ·rw [hTb] at grow
    exact .inr (grow (by omega))
 | some b =>
   right
   rw [hTb] at grow
   obtain ⟨had, hbr, hlc, cur, e', hcur, hcs, hone⟩ := hok.2.2 b hTb
   have hold := hold b cur e' hTb hcur
   have hle : T.len * T.k ≤ cur.size := by rw [hcs]; exact Nat.mul_le_mul_right _ hlc
   by_cases hroom : T.len + m ≤ T.cap
   ·have hfit : T.len * i.size + news.length ≤ cur.size := by rw [hn, hk, hcs, ← Nat.add_mul]; exact Nat.mul_le_mul_right _ hroom
    have hr := app_room (P := P) (ty := ty) hT.ht hu hT.hi hcur hlen (hf w rfl) h2 hroom hfit
    have hw1 : (w.setRow b (setV cur.toList (T.len * i.size) news).toArray).heap[b]? = some (.cells (setV cur.toList (T.len * i.size) news).toArray e' (0, 0)) := by
     simp [World.setRow, Array.getElem?_modify, hcur]
    rw [had]
    refine ⟨b, T.cap, (setV cur.toList (T.len * i.size) news).toArray, _, e', hr, ⟨hw1, fun n _ hne => ?_, fun c o ho => ?_, by simp [World.setRow], rfl, rfl, rfl, .inl ⟨hTb, rfl⟩, ?_, hroom, ?_, ?_⟩, .inr ⟨cur, rfl, hcur⟩⟩
    ·have : b ≠ n := fun e => hne (by rw [hTb, e])
     simp [World.setRow, Array.getElem?_modify, this]
    ·by_cases hcb : b = c
     ·subst hcb
      have hlt : o < T.len * T.k := by
       have := hi.heap.tv tt V T hV hgT
       cases V with
       | per k len => exact this.2.2 b hTb o ho
       | chg k cs => exact absurd ho ((this.2.2.2 b hTb).1 o)
       | byt e0 bs => exact absurd ho ((this.2.2.2 b hTb).1 o)
      rw [zCm hcur, zCm hw1]
      rw [← Array.getElem?_toList, ← Array.getElem?_toList]
      rw [zEm _ _ _ (by simpa using hfit), List.append_assoc, List.getElem?_append_left (by simp; rw [hk]; omega), List.getElem?_take, if_pos (by rw [hk]; exact hlt)]
     ·refine cell_of_heap ?_
      simp [World.setRow, Array.getElem?_modify, hcb]
    ·simp [zD6, hcs]
    ·rw [hold]
     have := setV_take_pre (news := news) (cs := cur.toList) (off := T.len * i.size) (by simpa using hfit)
     rw [hk] at this
     rw [List.toList_toArray, hk, List.length_append, ← this]
     congr 1
     rw [← hold, hol]
    ·rw [List.toList_toArray]; exact zFe _ _ _ _ hone h2
   ·have := grow (by omega)
    exact this
theorem Land.lt {w' : World} {T : Tk} {e : TypeId} {b cap need : Nat} {ys : Array Value} {cs : List Value} (h : Land w w' g T e b cap need ys cs) : b < w'.heap.size := zDy h.at_
theorem Land.free {w' : World} {T : Tk} {e : TypeId} {b cap need : Nat} {ys : Array Value} {cs : List Value} (h : Land w w' g T e b cap need ys cs) (hi : Inv w0 g0 hp w g) {tt : Nat} (hgT : g.tk[tt]? = some T) : b ∉ g.r := by
 rcases h.new with q | q
 ·exact ((hi.heap.tok T (List.mem_of_getElem? hgT)).2.2 b q.1).2.1
 ·exact fun hm => by have := hi.heap.lt b hm; omega
theorem app_per {t u e : TypeId} {i : TypeInfo} {zv : Value} {z : List D} {s x : Value} (hT : ElemT P t e i zv z) (hu : (∃ e', P.underlying u = some (.slice e')) ∨ P.underlying u = some .string)
 (toX : ∀ {v : Value} {w' : World}, (Builtin.append_ #[t, u] o.type #[s, x]).run P w = .ok v w' → (execOp ρ o).run P w = .ok (.value v) w')
 (hi : Inv w0 g0 hp w g) {xs es : List D} {vs : List Value} {tt : Nat} (ha : Rel w g (.slice xs (.tok tt)) s) (hel : Elems P w g i.size x es vs) (hK : zAh i.size es = true) (hcl : D.cL es = true)
 (hroom : zB3 (xs.length + es.length) i.bytes) (hV : hp.tk[tt]? = some (.per i.size xs.length))
 (h : K (.slice (xs ++ D.erL es) (.tok tt)) { hp with tk := hp.tk.set tt (.per i.size (xs.length + es.length)) }) : Done P ρ o w0 g0 w g K := by
 obtain ⟨e1, e2, e3, e4⟩ := hel.all hK
 have hone := flat_one hel.rel hK
 simp only [Rel] at ha
 obtain ⟨a, cap0, k', us, hax, g2, g3, g4, g5, g6⟩ := ha
 obtain ⟨T, hgT, rfl, hlT, hsT⟩ := g6
 obtain ⟨T', hgT', ⟨hk, hxl, hIb⟩, hok⟩ := hi.heap.tokBlk hV
 rw [hgT] at hgT'; cases hgT'
 have hs := hsT hxl
 have hus := g3.length
 have hlx := zBy us T.k g4
 rw [hus, hxl] at hlx
 have hcl' := RelL.closed _ hcl hel.rel
 have hl2 : (xs ++ D.erL es).length = xs.length + es.length := by rw [List.length_append, ← hcl'.length, e4]
 have hou : ∀ y ∈ flat us, oneC y := fun y hy => by
  obtain ⟨j, hj⟩ := List.mem_iff_getElem?.1 hy
  exact (g5.2 j y hj).2.2
 have hfo : ∀ w1 : World, w1.heap = w.heap → (Builtin.firstCells i.size T.len (.slice T.addr T.len T.cap)).run P w1 = .ok (flat us).toArray w1 := by
  intro w1 hw
  have hv : Value.slice T.addr T.len T.cap = s := by rw [hs, hxl]
  rw [hv]
  rcases hax with hax | ⟨hax, hx0, _⟩
  ·rw [hax]
   have := zBf (P := P) (w := w) (a := a) (ys := flat us) (n := T.len) (k := i.size) (len := xs.length) (cap := cap0) g5.1 (by rw [hlx, hk]; exact Nat.le_refl _) (fun j y hj => (g5.2 j y hj).1) w1 hw
   rw [hk, ← hlx, List.take_length] at this
   rw [hk]; exact this
  ·rw [hax]
   have : us = [] := List.eq_nil_of_length_eq_zero (by rw [hus, hx0]; rfl)
   subst this
   simp [Builtin.firstCells, flat]
 have hland := app_tok (ty := o.type) hT hu hi hgT hV hk (olds := flat us) (e1 w) e2 hfo hlx hou (fun b ys e' hb' hw => by
  have had := (hok.2.2 b hb').1
  obtain ⟨_, _, hc, ys', e'', hw', hsz, _⟩ := hok.2.2 b hb'
  rw [hw] at hw'; cases hw'
  have ha : a = ⟨b, 0, none⟩ := by
   rcases hax with hax | ⟨hax, _⟩
   ·rw [hs, had] at hax; simp at hax; exact hax.1.symm
   ·rw [hs, had] at hax; simp at hax
  subst ha
  have hle : T.len * T.k ≤ ys.size := by rw [hsz]; exact Nat.mul_le_mul_right _ hc
  apply List.ext_getElem?
  intro j
  rw [List.getElem?_take]
  by_cases hj : j < T.len * T.k
  ·rw [if_pos hj]
   have hlt : j < (flat us).length := by omega
   have := (g5.2 j _ (List.getElem?_eq_getElem hlt)).1
   rw [Nat.zero_add, zCm hw] at this
   rw [List.getElem?_eq_getElem hlt, ← this]; simp
  ·rw [if_neg hj, List.getElem?_eq_none (by omega)]) (by rw [← hxl]; exact hroom) e3 hone
 rw [← hxl, ← hs] at hland
 rcases hland with ⟨hb', hm, r1⟩ | ⟨b, cap, ys, w', e', r1, r2, r3⟩
 ·have : es = [] := List.eq_nil_of_length_eq_zero hm
  subst this
  obtain ⟨q1, q2⟩ := hi.goTok (w' := w) (T' := T) (I' := g.I) (V' := .per i.size (xs.length + 0)) hgT rfl (.inl rfl) (fun _ _ _ => rfl) (Nat.le_refl _) rfl rfl rfl (fun n hn => .inl hn) (fun b o ho => ⟨ho, rfl⟩) (fun b o ho => .inl ho)
   (hok.keep (fun _ _ => rfl) fun _ _ hn => hn) (fun _ => ⟨hk, by omega, fun b hb o ho => hIb b hb o ho⟩)
  refine ⟨_, _, _, _, _, h, q1, q2, ?_, .inl (toX r1)⟩
  simp only [Rel, D.erL, List.append_nil]
  exact ⟨a, cap0, T.k, us, hax, g2, RelL.evo _ q2.cl g3, g4, g5.evo q2.imm, T, zD5 hgT, rfl, hlT, hsT⟩
 ·have hfl : (flat us ++ flat vs).length = (T.len + es.length) * T.k := by rw [List.length_append, hlx, e3, hk, Nat.add_mul]
  have htake := r2.take
  rw [hfl] at htake
  have hnew : (⟨some b, some ⟨b, 0, none⟩, cap, T.k, T.len + es.length⟩ : Tk) = T ∨ T.len < T.len + es.length := by
   by_cases hm : es.length = 0
   ·left
    rcases r2.new with ⟨q, q'⟩ | q
    ·have had := (hok.2.2 b q).1
     rw [hm, q', Nat.add_zero, ← q, ← had]
    ·omega
   ·right; omega
  obtain ⟨q1, q2⟩ := hi.goTok (w' := w') (T' := ⟨some b, some ⟨b, 0, none⟩, cap, T.k, T.len + es.length⟩) (I' := fun c o => g.I c o ∨ (c = b ∧ o < (T.len + es.length) * T.k)) (V' := .per i.size (xs.length + es.length)) hgT rfl
   hnew
   r2.other r2.size r2.os r2.tape r2.output (fun n hn => by simp at hn; subst hn; exact r2.new.imp And.left And.left) (fun c o ho => ⟨.inl ho, r2.keep c o ho⟩)
   (by
    rintro c o (q | ⟨rfl, _⟩)
    ·exact .inl q
    ·exact .inr ⟨rfl, r2.lt⟩)
   ⟨hok.1, by simp, fun c hc => by simp at hc; subst hc; exact ⟨rfl, r2.free hi hgT, by simpa [hxl] using r2.cap, ys, e', r2.at_, r2.ysz, r2.one⟩⟩
   (fun _ => ⟨hk, by simp only; omega, fun c hc o ho => by
    simp at hc; subst hc
    rcases ho with q | q
    ·rcases r2.new with ⟨p, _⟩ | p
     ·exact Nat.lt_of_lt_of_le (hIb _ p o q) (Nat.mul_le_mul_right _ (by simp))
     ·have := (hi.heap.imm _ o q).1; omega
    ·exact q.2⟩)
  refine ⟨_, _, _, _, _, h, q1, q2, ?_, .inl (toX r1)⟩
  simp only [Rel]
  have hsz2 : ∀ y ∈ us ++ vs, y.cells.size = T.k := by
   intro y hy
   rcases List.mem_append.1 hy with q | q
   ·exact g4 y q
   ·rw [← hk]; exact zBm hel.rel hK y q
  refine ⟨⟨b, 0, none⟩, cap, T.k, us ++ vs, .inl (by rw [hl2]), by rw [hl2]; exact r2.cap, RelL.evo _ q2.cl (g3.append hcl'), hsz2, ⟨fun _ => rfl, fun j y hj => ?_⟩, ?_⟩
  ·rw [zC8, ← htake] at hj
   rw [List.getElem?_take] at hj
   split at hj
   case isFalse => cases hj
   rename_i hlt
   refine ⟨?_, .inr ⟨rfl, by simpa using hlt⟩, r2.one y (List.mem_of_getElem? hj)⟩
   rw [Nat.zero_add, zCm r2.at_, ← Array.getElem?_toList]; exact hj
  ·exact ⟨_, zD5 hgT, rfl, by rw [hl2, hxl]; exact Nat.le_refl _, fun _ => by rw [hl2, hxl]⟩
theorem app_chg {t u e : TypeId} {i : TypeInfo} {zv : Value} {z : List D} {s x : Value} (hT : ElemT P t e i zv z) (hu : (∃ e', P.underlying u = some (.slice e')) ∨ P.underlying u = some .string)
 (toX : ∀ {v : Value} {w' : World}, (Builtin.append_ #[t, u] o.type #[s, x]).run P w = .ok v w' → (execOp ρ o).run P w = .ok (.value v) w')
 (hi : Inv w0 g0 hp w g) {es cs : List D} {vs : List Value} {tt n : Nat} (ha : Rel w g (.gs tt n) s) (hel : Elems P w g i.size x es vs) (hK : zAh i.size es = true)
 (hroom : zB3 (n + es.length) i.bytes) (hV : hp.tk[tt]? = some (.chg i.size cs)) (hcl : cs.length = n * i.size)
 (h : K (.gs tt (n + es.length)) { hp with tk := hp.tk.set tt (.chg i.size (cs ++ flatD es)) }) : Done P ρ o w0 g0 w g K := by
 obtain ⟨e1, e2, e3, e4⟩ := hel.all hK
 obtain ⟨f1, hone⟩ := zCt hel.rel hK
 simp only [Rel] at ha
 obtain ⟨a, cap0, T, hax, hnn, hgT, hlT, hsT⟩ := ha
 obtain ⟨T', hgT', ⟨hk, hcs, hn0, hIb⟩, hok⟩ := hi.heap.tokBlk hV
 rw [hgT] at hgT'; cases hgT'
 have hn : n = T.len := Nat.eq_of_mul_eq_mul_right hok.1 (by rw [← hk, ← hcl, hcs, hk])
 obtain ⟨rfl, rfl, _⟩ := hsT hn
 obtain ⟨olds, ho1, ho2, ho3, ho4, ho5⟩ : ∃ olds : List Value, RelL w g cs olds ∧ olds.length = T.len * T.k ∧ (∀ y ∈ olds, oneC y) ∧ (∀ w1 : World, w1.heap = w.heap → (Builtin.firstCells i.size T.len (.slice T.addr T.len T.cap)).run P w1 = .ok olds.toArray w1) ∧
  ∀ b ys e', T.blk = some b → w.heap[b]? = some (.cells ys e' (0, 0)) → olds = ys.toList.take (T.len * T.k) := by
  cases hTb : T.blk with
  | none =>
    obtain ⟨q1, q2⟩ := hn0 hTb
    have : cs = [] := List.eq_nil_of_length_eq_zero (by rw [hcs, q1]; simp)
    subst this
    exact ⟨[], RelL.nil, by simp [q1], by simp, fun w1 _ => by simp [q2, Builtin.firstCells], fun b _ _ hb => by cases hb⟩
  | some b =>
    obtain ⟨_, ys, e', h1, h2⟩ := hIb b hTb
    obtain ⟨had, _, hc, ys', e'', h3, h4, h5⟩ := hok.2.2 b hTb
    rw [h1] at h3; cases h3
    have hle : T.len * T.k ≤ ys.size := by rw [h4]; exact Nat.mul_le_mul_right _ hc
    refine ⟨_, h2, by simp; omega, fun y hy => h5 y (List.mem_of_mem_take hy), fun w1 hw => ?_, fun b' ys' e'' hb hw => by cases hb; rw [h1] at hw; cases hw; rfl⟩
    rw [had]
    have := zBf (P := P) (w := w) (a := ⟨b, 0, none⟩) (ys := ys.toList.take (T.len * T.k)) (n := T.len) (k := i.size) (len := T.len) (cap := T.cap) (fun _ => rfl) (by rw [hk]; simp; omega) (fun j y hj => by
     rw [Nat.zero_add, zCm h1]; exact zCd hj) w1 hw
    rw [hk, List.take_take, Nat.min_self] at this
    rw [hk]; exact this
 have hland := app_tok (ty := o.type) hT hu hi hgT hV hk (olds := olds) (e1 w) e2 ho4 ho2 ho3 ho5 (by rw [← hn]; exact hroom) e3 hone
 rw [← hn, ← hax] at hland
 rcases hland with ⟨hb', hm, r1⟩ | ⟨b, cap, ys, w', e', r1, r2, r3⟩
 ·have : es = [] := List.eq_nil_of_length_eq_zero hm
  subst this
  obtain ⟨q1, q2⟩ := hi.goTok (w' := w) (T' := T) (I' := g.I) (V' := .chg i.size (cs ++ flatD [])) hgT rfl (.inl rfl) (fun _ _ _ => rfl) (Nat.le_refl _) rfl rfl rfl (fun n hn => .inl hn) (fun b o ho => ⟨ho, rfl⟩) (fun b o ho => .inl ho)
   (hok.keep (fun _ _ => rfl) fun _ _ hn => hn) (fun _ => ⟨hk, by simp [flatD, hcs], hn0, fun b hb => by rw [hb'] at hb; cases hb⟩)
  refine ⟨_, _, _, _, _, h, q1, q2, ?_, .inl (toX r1)⟩
  simp only [Rel]
  exact ⟨_, _, T, hax, hnn, zD5 hgT, hlT, hsT⟩
 ·have hfl : (olds ++ flat vs).length = (T.len + es.length) * T.k := by rw [List.length_append, ho2, e3, hk, Nat.add_mul]
  have htake := r2.take
  rw [hfl] at htake
  have hnew : (⟨some b, some ⟨b, 0, none⟩, cap, T.k, T.len + es.length⟩ : Tk) = T ∨ T.len < T.len + es.length := by
   by_cases hm : es.length = 0
   ·left
    rcases r2.new with ⟨q, q'⟩ | q
    ·have had := (hok.2.2 b q).1
     rw [hm, q', Nat.add_zero, ← q, ← had]
    ·omega
   ·right; omega
  obtain ⟨q1, q2⟩ := hi.goTok (w' := w') (T' := ⟨some b, some ⟨b, 0, none⟩, cap, T.k, T.len + es.length⟩) (I' := g.I) (V' := .chg i.size (cs ++ flatD es)) hgT rfl hnew
   r2.other r2.size r2.os r2.tape r2.output (fun n hn => by simp at hn; subst hn; exact r2.new.imp And.left And.left) (fun c o ho => ⟨ho, r2.keep c o ho⟩) (fun c o ho => .inl ho)
   ⟨hok.1, by simp, fun c hc => by simp at hc; subst hc; exact ⟨rfl, r2.free hi hgT, by simpa [hn] using r2.cap, ys, e', r2.at_, r2.ysz, r2.one⟩⟩
   (fun he => ⟨hk, by simp only [List.length_append, zEx hK, hcs, hk, Nat.add_mul], by simp, fun c hc => by
    simp at hc; subst hc
    refine ⟨fun o ho => ?_, ys, e', r2.at_, ?_⟩
    ·rcases r2.new with ⟨p, _⟩ | p
     ·exact (hIb _ p).1 o ho
     ·have := (hi.heap.imm _ o ho).1; omega
    ·rw [htake]
     exact RelL.evo _ he (ho1.append f1)⟩)
  refine ⟨_, _, _, _, _, h, q1, q2, ?_, .inl (toX r1)⟩
  simp only [Rel]
  exact ⟨_, cap, _, rfl, by simp, zD5 hgT, by simp [hn], fun _ => ⟨rfl, rfl, fun _ => ⟨_, rfl⟩⟩⟩
theorem app_resv {t u e : TypeId} {i : TypeInfo} {zv : Value} {z : List D} {s x : Value} {ad : Option Addr} (hT : ElemT P t e i zv z) (hu : (∃ e', P.underlying u = some (.slice e')) ∨ P.underlying u = some .string)
 (toX : ∀ {v : Value} {w' : World}, (Builtin.append_ #[t, u] o.type #[s, x]).run P w = .ok v w' → (execOp ρ o).run P w = .ok (.value v) w')
 (hi : Inv w0 g0 hp w g) {es : List D} {vs : List Value} {tt : Nat} (hs : s = .slice ad 0 0) (hfo : ∀ w1 : World, w1.heap = w.heap → (Builtin.firstCells i.size 0 (.slice ad 0 0)).run P w1 = .ok #[] w1)
 (hel : Elems P w g i.size x es vs) (hK : zAh i.size es = true) (hroom : zB3 es.length i.bytes) (hpos : 0 < es.length) (hV : hp.tk[tt]? = some (.chg i.size []))
 (h : K (.gs tt es.length) { hp with tk := hp.tk.set tt (.chg i.size (flatD es)) }) : Done P ρ o w0 g0 w g K := by
 subst hs
 obtain ⟨e1, e2, e3, e4⟩ := hel.all hK
 obtain ⟨f1, hone⟩ := zCt hel.rel hK
 obtain ⟨T, hgT, ⟨hk, hcs, hn0, hIb⟩, hok⟩ := hi.heap.tokBlk hV
 have hT0 : T.len = 0 := by
  rcases Nat.eq_zero_or_pos T.len with q | q
  ·exact q
  ·have := Nat.mul_pos q hok.1
   simp only [List.length_nil] at hcs
   omega
 obtain ⟨cap, ys, w', r1, r2⟩ := grown_mk (ty := o.type) (base := ad) (sLen := 0) (sCap := 0) (olds := []) hT hu (e1 w) e2 hfo (by omega) (by simpa using hroom) (by simp) e3 (by simp) hone
 obtain ⟨rfl, s1, s2, s3, s4⟩ := r2
 have hfl : (flat vs).length = es.length * T.k := by rw [e3, hk]
 simp only [List.nil_append] at s3
 rw [hfl] at s3
 rw [Nat.zero_add] at r1 s2
 obtain ⟨q1, q2⟩ := hi.goTok (w' := w.drew.alloc (.cells ys e (0, 0))) (T' := ⟨some w.heap.size, some ⟨w.heap.size, 0, none⟩, cap, T.k, es.length⟩) (I' := g.I) (V' := .chg i.size (flatD es)) hgT rfl (.inr (by simp only [hT0]; exact hpos))
  (fun n hlt _ => zA2 w.drew _ n hlt) (by simp) rfl rfl rfl (fun n hn => by simp at hn; subst hn; exact .inr (Nat.le_refl _)) (fun c o ho => ⟨ho, cell_of_heap (zA2 w.drew _ c (hi.heap.imm c o ho).1)⟩) (fun c o ho => .inl ho)
  ⟨hok.1, by simp, fun c hc => by simp at hc; subst hc; exact ⟨rfl, fun hm => by have := hi.heap.lt _ hm; omega, s2, ys, e, zBe w.drew _, by rw [s1, hk], s4⟩⟩
  (fun he => ⟨hk, by simp only [zEx hK, hk], by simp, fun c hc => by
   simp at hc; subst hc
   refine ⟨fun o ho => ?_, ys, e, zBe w.drew _, ?_⟩
   ·have := (hi.heap.imm _ o ho).1; omega
   ·rw [s3]
    exact RelL.evo _ he f1⟩)
 refine ⟨_, _, _, _, _, h, q1, q2, ?_, .inl (toX r1)⟩
 simp only [Rel]
 exact ⟨_, cap, _, rfl, by simp, zD5 hgT, Nat.le_refl _, fun _ => ⟨rfl, rfl, fun _ => ⟨_, rfl⟩⟩⟩
theorem bytesB_cons {d : D} {es : List D} {s : List UInt8} (h : zDn (d :: es) = some s) : ∃ n s', d = .int .u8 n ∧ zDn es = some s' ∧ 0 ≤ n ∧ n ≤ 255 ∧ s = UInt8.ofNat n.toNat :: s' := by
 unfold zDn at h
 split at h
 ·rename_i hd; cases hd
 ·rename_i n r hd
  cases hd
  split at h
  ·rename_i s' hs
   split at h
   ·rename_i hn
    simp at h
    exact ⟨n, s', rfl, hs, hn.1, hn.2, h.symm⟩
   ·cases h
  ·cases h
 ·cases h
theorem bytes_of : ∀ {es : List D} {s : List UInt8}, zDn es = some s → ∀ {vs : List Value}, RelL w g es vs → flat vs = s.map fun c => Value.int .u8 c.toNat
 | [], s, h, vs, hr => by simp [zDn] at h; subst h; rw [hr.inv_nil]; rfl
 | d :: es, s, h, vs, hr => by
   obtain ⟨n, s', rfl, hs, n0, n1, rfl⟩ := bytesB_cons h
   obtain ⟨y, ys, rfl, h1, h2⟩ := hr.inv
   simp only [Rel] at h1
   subst h1
   have e : (((UInt8.ofNat n.toNat).toNat : Nat) : Int) = n := by rw [UInt8.toNat_ofNat']; omega
   simp only [flat, Value.cells, List.map_cons, e, bytes_of hs h2]
   rfl
theorem bytes_len : ∀ {es : List D} {s : List UInt8}, zDn es = some s → s.length = es.length
 | [], s, h => by simp [zDn] at h; subst h; rfl
 | d :: es, s, h => by
   obtain ⟨n, s', rfl, hs, n0, n1, rfl⟩ := bytesB_cons h
   simp [bytes_len hs]
theorem app_byt {t u e : TypeId} {i : TypeInfo} {zv : Value} {z : List D} {s x : Value} (hT : ElemT P t e i zv z) (hu : (∃ e', P.underlying u = some (.slice e')) ∨ P.underlying u = some .string)
 (toX : ∀ {v : Value} {w' : World}, (Builtin.append_ #[t, u] o.type #[s, x]).run P w = .ok v w' → (execOp ρ o).run P w = .ok (.value v) w')
 (hi : Inv w0 g0 hp w g) {es : List D} {vs : List Value} {tt n : Nat} {bs s' : List UInt8} (ha : Rel w g (.gs tt n) s) (hel : Elems P w g i.size x es vs) (hK : zAh i.size es = true) (h1 : i.size = 1)
 (hroom : zB3 (n + es.length) i.bytes) (hV : hp.tk[tt]? = some (.byt e bs)) (hcl : bs.length = n) (hs' : zDn es = some s')
 (h : K (.gs tt (n + es.length)) { hp with tk := hp.tk.set tt (.byt e (bs ++ s')) }) : Done P ρ o w0 g0 w g K := by
 obtain ⟨e1, e2, e3, e4⟩ := hel.all hK
 obtain ⟨f1, hone⟩ := zCt hel.rel hK
 have hfv := bytes_of hs' hel.rel
 have hsl := bytes_len hs'
 simp only [Rel] at ha
 obtain ⟨a, cap0, T, hax, hnn, hgT, hlT, hsT⟩ := ha
 obtain ⟨T', hgT', ⟨hk, hcs, hn0, hIb⟩, hok⟩ := hi.heap.tokBlk hV
 rw [hgT] at hgT'; cases hgT'
 have hn : n = T.len := by omega
 obtain ⟨rfl, rfl, _⟩ := hsT hn
 have hkk : i.size = T.k := by rw [h1, hk]
 obtain ⟨olds, ho1, ho2, ho3, ho4, ho5⟩ : ∃ olds : List Value, olds = bs.map (fun c => Value.int .u8 c.toNat) ∧ olds.length = T.len * T.k ∧ (∀ y ∈ olds, oneC y) ∧ (∀ w1 : World, w1.heap = w.heap → (Builtin.firstCells i.size T.len (.slice T.addr T.len T.cap)).run P w1 = .ok olds.toArray w1) ∧
  ∀ b ys e', T.blk = some b → w.heap[b]? = some (.cells ys e' (0, 0)) → olds = ys.toList.take (T.len * T.k) := by
  refine ⟨_, rfl, by rw [List.length_map, hcs, hk, Nat.mul_one], fun y hy => ?_, ?_⟩
  ·obtain ⟨c, _, rfl⟩ := List.mem_map.1 hy
   simp [oneC, Value.oneCell']
  cases hTb : T.blk with
  | none =>
    obtain ⟨q1, q2⟩ := hn0 hTb
    have : bs = [] := List.eq_nil_of_length_eq_zero (by rw [hcs, q1])
    subst this
    exact ⟨fun w1 _ => by simp [q1, q2, Builtin.firstCells], fun b _ _ hb => by cases hb⟩
  | some b =>
    obtain ⟨_, ys, p1, p2⟩ := hIb b hTb
    obtain ⟨had, _, hc, ys', e'', p3, p4, p5⟩ := hok.2.2 b hTb
    rw [p1] at p3; cases p3
    have hle : T.len * T.k ≤ ys.size := by rw [p4]; exact Nat.mul_le_mul_right _ hc
    rw [← p2]
    refine ⟨fun w1 hw => ?_, fun b' ys' e'' hb hw => by cases hb; rw [p1] at hw; cases hw; rw [hk, Nat.mul_one]⟩
    rw [had]
    have := zBf (P := P) (w := w) (a := ⟨b, 0, none⟩) (ys := ys.toList.take T.len) (n := T.len) (k := i.size) (len := T.len) (cap := T.cap) (fun _ => rfl) (by rw [h1]; simp; rw [hk] at hle; omega) (fun j y hj => by
     rw [Nat.zero_add, zCm p1]; exact zCd hj) w1 hw
    rw [h1, Nat.mul_one, List.take_take, Nat.min_self] at this
    rw [h1]; exact this
 have hland := app_tok (ty := o.type) hT hu hi hgT hV hkk (olds := olds) (e1 w) e2 ho4 ho2 ho3 ho5 (by rw [← hn]; exact hroom) e3 hone
 rw [← hn, ← hax] at hland
 rcases hland with ⟨hb', hm, r1⟩ | ⟨b, cap, ys, w', e', r1, r2, r3⟩
 ·have : es = [] := List.eq_nil_of_length_eq_zero hm
  subst this
  simp [zDn] at hs'
  subst hs'
  obtain ⟨q1, q2⟩ := hi.goTok (w' := w) (T' := T) (I' := g.I) (V' := .byt e (bs ++ [])) hgT rfl (.inl rfl) (fun _ _ _ => rfl) (Nat.le_refl _) rfl rfl rfl (fun n hn => .inl hn) (fun b o ho => ⟨ho, rfl⟩) (fun b o ho => .inl ho)
   (hok.keep (fun _ _ => rfl) fun _ _ hn => hn) (fun _ => ⟨hk, by simp [hcs], hn0, fun b hb => by rw [hb'] at hb; cases hb⟩)
  refine ⟨_, _, _, _, _, h, q1, q2, ?_, .inl (toX r1)⟩
  simp only [Rel]
  exact ⟨_, _, T, hax, hnn, zD5 hgT, hlT, hsT⟩
 ·have hee : e' = e := by
   rcases r3 with r3 | ⟨cur, p1, p2⟩
   ·exact r3
   ·obtain ⟨_, ys', p3, _⟩ := hIb b p1
    rw [p2] at p3; cases p3; rfl
  subst hee
  have hfl : (olds ++ flat vs).length = T.len + es.length := by rw [List.length_append, ho2, e3, h1, hk]; omega
  have htake := r2.take
  rw [hfl] at htake
  have hnew : (⟨some b, some ⟨b, 0, none⟩, cap, T.k, T.len + es.length⟩ : Tk) = T ∨ T.len < T.len + es.length := by
   by_cases hm : es.length = 0
   ·left
    rcases r2.new with ⟨q, q'⟩ | q
    ·have had := (hok.2.2 b q).1
     rw [hm, q', Nat.add_zero, ← q, ← had]
    ·omega
   ·right; omega
  obtain ⟨q1, q2⟩ := hi.goTok (w' := w') (T' := ⟨some b, some ⟨b, 0, none⟩, cap, T.k, T.len + es.length⟩) (I' := g.I) (V' := .byt e' (bs ++ s')) hgT rfl hnew
   r2.other r2.size r2.os r2.tape r2.output (fun n hn => by simp at hn; subst hn; exact r2.new.imp And.left And.left) (fun c o ho => ⟨ho, r2.keep c o ho⟩) (fun c o ho => .inl ho)
   ⟨hok.1, by simp, fun c hc => by simp at hc; subst hc; exact ⟨rfl, r2.free hi hgT, by simpa [hn] using r2.cap, ys, e', r2.at_, r2.ysz, r2.one⟩⟩
   (fun he => ⟨hk, by simp only [List.length_append, hcs, hsl], by simp, fun c hc => by
    simp at hc; subst hc
    refine ⟨fun o ho => ?_, ys, r2.at_, ?_⟩
    ·rcases r2.new with ⟨p, _⟩ | p
     ·exact (hIb _ p).1 o ho
     ·have := (hi.heap.imm _ o ho).1; omega
    ·rw [htake, ho1, hfv, List.map_append]⟩)
  refine ⟨_, _, _, _, _, h, q1, q2, ?_, .inl (toX r1)⟩
  simp only [Rel]
  exact ⟨_, cap, _, rfl, by simp, zD5 hgT, by simp [hn], fun _ => ⟨rfl, rfl, fun _ => ⟨_, rfl⟩⟩⟩
theorem set_last {α : Type} (l : List α) (a b : α) : (l ++ [a]).set l.length b = l ++ [b] := by
 rw [List.set_append_right _ _ (Nat.le_refl _)]; simp
theorem get_last {α : Type} (l : List α) (a : α) : (l ++ [a])[l.length]? = some a := by
 rw [List.getElem?_append_right (Nat.le_refl _)]; simp
theorem Elems.evo {k : Nat} {x : Value} {es : List D} {vs : List Value} {g2 : Gh} (h : Elems P w g k x es vs) (he : Evo w g w g2) : Elems P w g2 k x es vs := ⟨RelL.evo _ he h.rel, h.len, h.cells⟩
theorem snd_app {c : Call} {s x : Operand} {t u e : TypeId} {i : TypeInfo} {zv : Value} {z : List D} (hop : o.op = .call c) (hc : c.callee = .builtin .append) (hta : c.argTypes = #[t, u]) (hx : c.args.toList = [s, x])
 (hT : ElemT P t e i zv z) (hk0 : 0 < i.size) (hu : (∃ e', P.underlying u = some (.slice e')) ∨ P.underlying u = some .string)
 (hi : Inv w0 g0 hp w g) {ds : List D} (hr : RelL w g ds [ρ s, ρ x]) (h : opWp (.app i.size i.bytes e) ds hp K) : Done P ρ o w0 g0 w g K := by
 obtain ⟨a, b, rfl, ha, hb⟩ := list2 (f := ρ) hr
 obtain ⟨consts, hrun⟩ := zBx (ρ := ρ) (o := o) (P := P) (w := w) hop hc
 simp only [args2 hx, builtin, hta, List.map_toArray, List.map_cons, List.map_nil] at hrun
 simp only [opWp] at h
 obtain ⟨es, he, h⟩ := h
 unfold appWp at h
 obtain ⟨hK, h⟩ := h
 obtain ⟨vs, hel⟩ := elems_val (P := P) hi.heap hb he hK
 obtain ⟨e1, e2, e3, e4⟩ := hel.all hK
 have hone := flat_one hel.rel hK
 have toX : ∀ {v : Value} {w' : World}, (Builtin.append_ #[t, u] o.type #[ρ s, ρ x]).run P w = .ok v w' → (execOp ρ o).run P w = .ok (.value v) w' := by
  intro v w' hr; rw [hrun]; simp [hr]
 have noTok : ∀ (xs : List D) (us : List Value) (a : Addr), (ρ s = .slice (some a) xs.length xs.length ∨ (ρ s = .slice none 0 0 ∧ xs = [])) → RelL w g.cl xs us → At w g.I a (flat us) → zAh i.size xs = true → D.cL es = true → zB3 (xs.length + es.length) i.bytes →
  K (.slice (xs ++ D.erL es) .no) hp → Done P ρ o w0 g0 w g K := by
  intro xs us a hax g3 g5 hKx hcl hroom h
  have hus := g3.length
  have hsz := zBm g3 hKx
  have hlx := zBy us i.size hsz
  rw [hus] at hlx
  have hcl' := RelL.closed _ hcl hel.rel
  have hrel2 : RelL w g.cl (xs ++ D.erL es) (us ++ vs) := g3.append hcl'
  have hK2 : zAh i.size (xs ++ D.erL es) = true := zGo hKx (elemsK_erL hK hcl)
  have hl2 : (xs ++ D.erL es).length = xs.length + es.length := by rw [List.length_append, ← hcl'.length, e4]
  have hox := flat_one g3.any hKx
  have hfo : ∀ w1 : World, w1.heap = w.heap → (Builtin.firstCells i.size xs.length (ρ s)).run P w1 = .ok (flat us).toArray w1 := by
   intro w1 hw
   rcases hax with hax | ⟨hax, rfl⟩
   ·rw [hax]
    have := zBf (P := P) (w := w) (a := a) (ys := flat us) (n := xs.length) (k := i.size) (len := xs.length) (cap := xs.length) g5.1 (by rw [hlx]; exact Nat.le_refl _) (fun j y hj => (g5.2 j y hj).1) w1 hw
    rw [← hlx, List.take_length] at this; exact this
   ·rw [hax]
    have : us = [] := List.eq_nil_of_length_eq_zero hus
    subst this
    simp [Builtin.firstCells, flat]
  by_cases hm : es.length = 0
  ·have : es = [] := List.eq_nil_of_length_eq_zero hm
   subst this
   have hv : vs = [] := List.eq_nil_of_length_eq_zero e4
   subst hv
   have hf0 := e2 w rfl
   have hl0 := e1 w
   simp only [List.length_nil, flat] at hf0 hl0
   have r : (Builtin.append_ #[t, u] o.type #[ρ s, ρ x]).run P w = .ok (ρ s) w := by
    rcases hax with hax | ⟨hax, _⟩ <;> rw [hax]
    ·rcases hu with ⟨e', hu⟩ | hu <;> simp [Builtin.append_, run_underlying hT.ht, run_underlying hu, Go.sizeOf, typeInfo, hT.hi, hl0, hf0, storeCells]
    ·rcases hu with ⟨e', hu⟩ | hu <;> simp [Builtin.append_, run_underlying hT.ht, run_underlying hu, Go.sizeOf, typeInfo, hT.hi, hl0, hf0]
   refine ⟨_, _, g, _, w, h, hi, Evo.refl _ _, ?_, .inl (toX r)⟩
   simp only [Rel, D.erL, List.append_nil]
   rcases hax with hax | ⟨hax, hx0⟩
   ·exact ⟨a, xs.length, i.size, us, .inl hax, Nat.le_refl _, g3, hsz, g5, trivial⟩
   ·exact ⟨a, 0, i.size, us, .inr ⟨hax, hx0, rfl⟩, by simp [hx0], g3, hsz, g5, trivial⟩
  ·rcases hax with hax | ⟨hax, rfl⟩
   ·rw [hax] at hfo
    obtain ⟨cap, ys, w', r1, r2⟩ := grown_mk (ty := o.type) (base := some a) (sLen := xs.length) (sCap := xs.length) (olds := flat us) hT hu (e1 w) e2 hfo (by omega) hroom hlx e3 hox hone
    rw [← zC8, ← hl2] at r2
    rw [← hl2] at r1
    exact done_grown hi hrel2 hK2 r2 (toX (by rw [hax]; exact r1)) h
   ·rw [hax] at hfo
    obtain ⟨cap, ys, w', r1, r2⟩ := grown_mk (ty := o.type) (base := none) (sLen := 0) (sCap := 0) (olds := flat us) hT hu (e1 w) e2 hfo (by omega) (by simpa using hroom) hlx e3 hox hone
    have h0 : (0 : Nat) + es.length = ([] ++ D.erL es).length := by rw [hl2]; simp
    rw [← zC8, h0] at r2
    rw [h0] at r1
    exact done_grown hi hrel2 hK2 r2 (toX (by rw [hax]; exact r1)) h
 cases a <;> first
  | exact h.elim
  | skip
 case lit v =>
  cases v <;> first
   | exact h.elim
   | skip
  rename_i a n cap
  cases a <;> cases n <;> cases cap <;> first
   | exact h.elim
   | skip
  obtain ⟨hroom, h⟩ := h
  simp only [Rel] at ha
  obtain ⟨ha, _⟩ := ha
  rcases h with ⟨hcl, h | h⟩ | h
  ·exact noTok [] [] ⟨0, 0, none⟩ (.inr ⟨ha, rfl⟩) RelL.nil ⟨fun _ => rfl, by simp [flat]⟩ rfl hcl (by simpa using hroom) h
  ·obtain ⟨q1, q2⟩ := hi.tokFull (len := 0) (a := none) hk0 (.per i.size 0) (.inl rfl)
   have hs : Rel w (g.tok ⟨none, none, 0, i.size, 0⟩) (.slice [] (.tok hp.tk.length)) (ρ s) := by
    simp only [Rel]
    refine ⟨⟨0, 0, none⟩, 0, i.size, [], .inr ⟨ha, by simp, rfl⟩, by simp, RelL.nil, by simp, ⟨fun _ => rfl, by simp [flat]⟩, ?_⟩
    rw [hi.heap.lent]
    exact ⟨_, zDp _ _, rfl, by simp, fun _ => by rw [ha]; rfl⟩
   refine done_via q2 (app_per hT hu toX q1 hs (hel.evo q2) hK hcl (by simpa using hroom) (get_last _ _) ?_)
   simp only [List.nil_append, List.length_nil, Nat.zero_add, set_last]
   exact h
  ·obtain ⟨q1, q2⟩ := hi.tokFull (len := 0) (a := none) hk0 (.chg i.size []) (.inr ⟨rfl, rfl, rfl⟩)
   have hs : Rel w (g.tok ⟨none, none, 0, i.size, 0⟩) (.gs hp.tk.length 0) (ρ s) := by
    simp only [Rel]
    rw [hi.heap.lent]
    exact ⟨none, 0, _, ha, by simp, zDp _ _, by simp, fun _ => ⟨rfl, rfl, by simp⟩⟩
   refine done_via q2 (app_chg hT hu toX q1 hs (hel.evo q2) hK (by simpa using hroom) (get_last _ _) (by simp) ?_)
   simp only [List.nil_append, Nat.zero_add, set_last]
   exact h
 case slice xs own =>
  cases own with
  | no => exact h.elim
  | full =>
    obtain ⟨hroom, h⟩ := h
    simp only [Rel] at ha
    obtain ⟨a, cap0, k', us, hax, g2, g3, g4, g5, g6⟩ := ha
    have hcap0 : cap0 = xs.length := g6
    subst hcap0
    have hax' : ρ s = .slice (some a) xs.length xs.length ∨ (ρ s = .slice none 0 0 ∧ xs = []) := hax.imp id fun q => ⟨q.1, q.2.1⟩
    rcases h with ⟨hcl, hKx, _, h⟩ | ⟨rfl, hpos, tt, hV, h⟩
    rotate_left
    ·have hus : us = [] := List.eq_nil_of_length_eq_zero g3.length
     subst hus
     rcases hax' with q | ⟨q, _⟩
     ·refine app_resv hT hu toX hi (ad := some a) q (fun w1 hw => ?_) hel hK (by simpa using hroom) hpos hV h
      have := zBf (P := P) (w := w) (a := a) (ys := []) (n := 0) (k := i.size) (len := 0) (cap := 0) (fun q => absurd rfl q) (by simp) (by simp) w1 hw
      simpa using this
     ·exact app_resv hT hu toX hi (ad := none) q (fun w1 hw => by simp [Builtin.firstCells]) hel hK (by simpa using hroom) hpos hV h
    rcases h with h | h
    ·exact noTok xs us a hax' g3 g5 hKx hcl hroom h
    ·obtain ⟨ad, hd⟩ : ∃ ad, ρ s = .slice ad xs.length xs.length := by
      rcases hax' with q | ⟨q, rfl⟩
      ·exact ⟨_, q⟩
      ·exact ⟨none, q⟩
     obtain ⟨q1, q2⟩ := hi.tokFull (len := xs.length) (a := ad) hk0 (.per i.size xs.length) (.inl rfl)
     have hs : Rel w (g.tok ⟨none, ad, xs.length, i.size, xs.length⟩) (.slice xs (.tok hp.tk.length)) (ρ s) := by
      simp only [Rel]
      refine ⟨a, xs.length, i.size, us, hax, Nat.le_refl _, RelL.evo _ q2.cl g3, zBm g3 hKx, g5.evo q2.imm, ?_⟩
      rw [hi.heap.lent]
      exact ⟨_, zDp _ _, rfl, Nat.le_refl _, fun _ => hd⟩
     refine done_via q2 (app_per hT hu toX q1 hs (hel.evo q2) hK hcl hroom (get_last _ _) ?_)
     simp only [set_last]
     exact h
  | tok tt =>
    obtain ⟨hroom, hcl, hV, h⟩ := h
    exact app_per hT hu toX hi ha hel hK hcl hroom hV h
 case gs tt n =>
  obtain ⟨hroom, ⟨cs, hV, hcl, h⟩ | ⟨bs, s', h1, hV, hcl, hs', h⟩⟩ := h
  ·exact app_chg hT hu toX hi ha hel hK hroom hV hcl h
  ·exact app_byt hT hu toX hi ha hel hK h1 hroom hV hcl hs' h
end
end GoV
end
section
set_option linter.unusedSimpArgs false
set_option maxHeartbeats 1000000
namespace GoV
open Go
section
variable {P : Program} {ρ : Operand → Value} {o : Oper} {w0 : World} {g0 : Gh} {hp : Hp} {w : World} {g : Gh} {K : D → Hp → Prop}
theorem flat_takeK {es : List D} {vs : List Value} {k : Nat} (h : RelL w g es vs) (hk : zAh k es = true) (n : Nat) (hn : n ≤ es.length) : (flat vs).take (n * k) = flat (vs.take n) :=
 flat_take vs k n (zBm h hk) (by rw [h.length]; exact hn)
theorem snd_cpy {c : Call} {s x : Operand} {t e : TypeId} {k : Nat} (hop : o.op = .call c) (hc : c.callee = .builtin .copy) (hta : c.argTypes[0]? = some t) (hx : c.args.toList = [s, x]) (hu : P.underlying t = some (.slice e)) (hk : szOf P e = some k)
 (hi : Inv w0 g0 hp w g) {ds : List D} (hr : RelL w g ds [ρ s, ρ x]) (h : opWp (.cpy k) ds hp K) : Done P ρ o w0 g0 w g K := by
 obtain ⟨a, b, rfl, ha, hb⟩ := list2 (f := ρ) hr
 obtain ⟨consts, hrun⟩ := zBx (ρ := ρ) (o := o) (P := P) (w := w) hop hc
 simp only [args2 hx, builtin, List.map_toArray, List.map_cons, List.map_nil] at hrun
 simp only [opWp] at h
 cases a <;> try (simp only [cpyWp] at h; done)
 case sl b' k' off len cap =>
  simp only [cpyWp] at h
  obtain ⟨rfl, cs, es, h1, h2, hlc, h3, hK, h⟩ := h
  obtain ⟨vs, hel⟩ := elems_val (P := P) hi.heap hb h3 hK
  simp only [Rel] at ha
  obtain ⟨nb, o', q1, q2, q3⟩ := ha
  obtain ⟨xs, e', x1, x2, x3⟩ := hi.heap.blk b' _ nb h1 q1
  have hxl := x2.length
  have hmin : (es.take len).length = min es.length len := by rw [List.length_take, Nat.min_comm]
  have hcells := hel.cells (min es.length len) (Nat.min_le_left _ _) w rfl
  rw [flat_takeK hel.rel hK _ (Nat.min_le_left _ _)] at hcells
  have hrel2 : RelL w g (es.take len) (vs.take (min es.length len)) := by
   have := hel.rel.take (min es.length len)
   have e1 : es.take (min es.length len) = es.take len := by
    rcases Nat.le_total es.length len with q | q
    ·rw [Nat.min_eq_left q, List.take_length, List.take_of_length_le q]
    ·rw [Nat.min_eq_right q]
   rw [e1] at this; exact this
  obtain ⟨f1, f2⟩ := zCt hrel2 (zFx len hK)
  have hfl := zBy _ k' (zBm hrel2 (zFx len hK))
  rw [hrel2.length, hmin] at hfl
  have hle : min es.length len * k' ≤ len * k' := Nat.mul_le_mul_right _ (Nat.min_le_right _ _)
  have hlen := hel.len w
  have hng : ∃ C, hp.H[b']? = some C ∧ C ≠ .gone := ⟨_, h1, by simp⟩
  have hargs : c.argTypes[0]? = some t := hta
  by_cases hcap : 0 < cap
  ·have ho := q3 hcap
   subst ho
   have hst := run_storeCells_at P nb o' e' (flat (vs.take (min es.length len))) 0 xs.toArray w x1 (by rw [hfl]; simp; omega) f2
   simp only [Nat.add_zero, List.toList_toArray] at hst
   rw [← zEm _ xs o' (by rw [hfl]; omega)] at hst
   obtain ⟨w1, w2⟩ := hi.write (w' := w.setRow nb (setV xs o' (flat (vs.take (min es.length len)))).toArray) b' nb q1 hng (.cells (setL cs o' (flatD (es.take len))))
    (fun w1 g1 he => ⟨_, e', by simp [World.setRow, Array.getElem?_modify, x1], RelL.evo _ he (x2.setL o' f1), zFe _ _ _ _ x3 f2⟩)
    (fun m hm => by simp [World.setRow, Array.getElem?_modify, Ne.symm hm]) (by simp [World.setRow]) rfl rfl rfl
   refine ⟨_, _, g, .int .i64 (min es.length len : Nat), _, h, w1, w2, by simp [Rel], .inl ?_⟩
   rw [hrun]
   simp [Builtin.copy_, hargs, run_underlying hu, zAx hk, hlen, q2, Nat.min_def]
   have e1 : (if es.length ≤ len then es.length else len) = min es.length len := by rw [Nat.min_def]
   rw [e1, hcells]
   simp [hst, goInt]
  ·have hl0 : len = 0 := by omega
   subst hl0
   have hm0 : min es.length 0 = 0 := by omega
   rw [hm0] at hcells
   simp only [List.take_zero, flat] at hcells
   obtain ⟨w1, w2⟩ := hi.write (w' := w) b' nb q1 hng (.cells (setL cs off (flatD (es.take 0))))
    (fun w1 g1 he => ⟨xs, e', x1, by simpa [flatD, setL] using RelL.evo _ he x2, x3⟩) (fun m hm => rfl) rfl rfl rfl rfl
   refine ⟨_, _, g, .int .i64 (min es.length 0 : Nat), w, h, w1, w2, by simp [Rel], .inl ?_⟩
   rw [hrun]
   simp [Builtin.copy_, hargs, run_underlying hu, zAx hk, hlen, q2, hcells, goInt, storeCells]
theorem snd_rngS {t : TypeId} {x : Operand} (hop : o.op = .range t x) (hu : P.underlying t = some .string)
 (hi : Inv w0 g0 hp w g) {ds : List D} (hr : RelL w g ds [ρ x]) (h : opWp .rngS ds hp K) : Done P ρ o w0 g0 w g K := by
 obtain ⟨a, rfl, ha⟩ := list1 (f := ρ) hr
 cases a <;> try (simp only [opWp] at h; done)
 case str s =>
  simp only [opWp] at h
  simp only [Rel] at ha
  obtain ⟨q1, q2⟩ := hi.newBlk (.siter s 0) (.stringIter ⟨s.toArray⟩ 0) fun w' g' he => rfl
  refine ⟨_, _, _, .pointer (some ⟨w.heap.size, 0, none⟩), _, h, q1, q2, ?_, .inl ?_⟩
  ·simp only [Rel]
   refine ⟨w.heap.size, ?_, rfl⟩
   rw [hi.heap.len, List.getElem?_append_right (Nat.le_refl _)]; simp
  ·simp [execOp, hop, ha, Instr.range, run_underlying hu]
theorem snd_nxtS {it : Operand} (hop : o.op = .next it true)
 (hi : Inv w0 g0 hp w g) {ds : List D} (hr : RelL w g ds [ρ it]) (h : opWp .nxtS ds hp K) : Done P ρ o w0 g0 w g K := by
 obtain ⟨a, rfl, ha⟩ := list1 (f := ρ) hr
 cases a <;> try (simp only [opWp] at h; done)
 case ptr b off =>
  cases off <;> try (simp only [opWp] at h; done)
  simp only [opWp] at h
  obtain ⟨s, p, h1, h2, h3⟩ := h
  simp only [Rel] at ha
  obtain ⟨n, q1, q2⟩ := ha
  have hb := hi.heap.blk b _ n h1 q1
  have hb : w.heap[n]? = some (.stringIter ⟨s.toArray⟩ p) := hb
  have hsz := zF7 s
  by_cases hp' : p < s.length
  ·have hK := h2 hp'
   obtain ⟨w1, w2⟩ := hi.write (w' := { w with heap := w.heap.setIfInBounds n (.stringIter ⟨s.toArray⟩ (p + (Utf8.decode ⟨s.toArray⟩ p).2)) }) b n q1 ⟨_, h1, by simp⟩ (.siter s (p + (Utf8.decode ⟨s.toArray⟩ p).2))
    (fun w1 g1 he => by simp [BlkRel, Array.getElem?_setIfInBounds, zDy hb]) (fun m hm => by simp [Array.getElem?_setIfInBounds, Ne.symm hm]) (by simp) rfl rfl rfl
   refine ⟨_, _, g, .tuple #[.bool true, .int .i64 p, .int .i32 (Utf8.decode ⟨s.toArray⟩ p).1], _, hK, w1, w2, ?_, .inl ?_⟩
   ·simp only [Rel]
    exact ⟨_, rfl, RelL.cons (by simp [Rel]) (RelL.cons (by simp [Rel]) (RelL.one (by simp [Rel])))⟩
   ·have hlt : p < (ByteArray.mk s.toArray).size := by rw [hsz]; exact hp'
    simp only [execOp, hop, Sem.run_bind]
    have hnx : (Instr.next (ρ it) true o.type).run P w = .ok (.tuple #[.bool true, .int .i64 p, .int .i32 (Utf8.decode ⟨s.toArray⟩ p).1]) { w with heap := w.heap.setIfInBounds n (.stringIter ⟨s.toArray⟩ (p + (Utf8.decode ⟨s.toArray⟩ p).2)) } := by
     rw [q2]
     simp only [Instr.next, getObj, setObj, Sem.run_bind, Sem.run, hb, Result.andThen, hlt, if_true]
     simp [goInt]
    simp only [hnx, Result.andThen_ok, Sem.run_pure]
  ·have hK := h3 (by omega)
   refine zAg hi hK (v := .tuple #[.bool false]) (by simp only [Rel]; exact ⟨_, rfl, RelL.one (by simp [Rel])⟩) ?_
   have hlt : ¬ p < (ByteArray.mk s.toArray).size := by rw [hsz]; exact hp'
   simp [execOp, hop, q2, Instr.next, getObj, Sem.run, hb, hlt]
theorem snd_lenS {c : Call} {x : Operand} {t : TypeId} (hop : o.op = .call c) (hc : c.callee = .builtin .len) (ht : c.argTypes[0]? = some t) (hx : c.args.toList = [x]) (hu : P.underlying t = some .string)
 (hi : Inv w0 g0 hp w g) {ds : List D} (hr : RelL w g ds [ρ x]) (h : opWp .lenS ds hp K) : Done P ρ o w0 g0 w g K := by
 obtain ⟨a, rfl, ha⟩ := list1 (f := ρ) hr
 obtain ⟨cs, hrun⟩ := zBx (ρ := ρ) (o := o) (P := P) (w := w) hop hc
 simp only [args1 hx, builtin, Builtin.len_, ht] at hrun
 cases a <;> simp only [opWp] at h
 case str s =>
  simp only [Rel] at ha
  refine zAz hi h ?_
  rw [hrun]
  simp [run_underlying hu, ha, goInt, zF7]
theorem snd_lenL {c : Call} {x : Operand} {t e : TypeId} (hop : o.op = .call c) (hc : c.callee = .builtin .len) (ht : c.argTypes[0]? = some t) (hx : c.args.toList = [x]) (hu : P.underlying t = some (.slice e))
 (hi : Inv w0 g0 hp w g) {ds : List D} (hr : RelL w g ds [ρ x]) (h : opWp .lenL ds hp K) : Done P ρ o w0 g0 w g K := by
 obtain ⟨a, rfl, ha⟩ := list1 (f := ρ) hr
 obtain ⟨cs, hrun⟩ := zBx (ρ := ρ) (o := o) (P := P) (w := w) hop hc
 simp only [args1 hx, builtin, Builtin.len_, ht] at hrun
 cases a <;> try (simp only [opWp] at h; done)
 case slice es own =>
  simp only [Rel] at ha
  obtain ⟨a, cap, k, xs, hv, _⟩ := ha
  simp only [opWp] at h
  refine zAz hi h ?_
  rw [hrun]
  rcases hv with hv | ⟨hv, rfl, _⟩ <;> simp [run_underlying hu, hv, goInt]
 case sl b k off len cap =>
  simp only [Rel] at ha
  obtain ⟨n, o', _, hv, _⟩ := ha
  simp only [opWp] at h
  refine zAz hi h ?_
  rw [hrun]
  simp [run_underlying hu, hv, goInt]
 case gs tt n =>
  simp only [Rel] at ha
  obtain ⟨a, cap, T, hv, _⟩ := ha
  simp only [opWp] at h
  refine zAz hi h ?_
  rw [hrun]
  simp [run_underlying hu, hv, goInt]
 case lit v =>
  cases v <;> try (simp only [opWp] at h; done)
  case slice a n c =>
   cases a <;> cases n <;> cases c <;> try (simp only [opWp] at h; done)
   simp only [opWp] at h
   simp only [Rel] at ha
   refine zAz hi h ?_
   rw [hrun]
   simp [run_underlying hu, ha.1, goInt]
end
end GoV
end