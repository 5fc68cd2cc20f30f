/- The engine, part b: how data values stand for values in a world; contracts; the evaluation of resolved operations. Own work; no program in sight. -/
import Derived.Test.YtapoplenfgjcjaaDoorEa
namespace GoV
open Go

/-- A slice that may still be appended to: its block, its capacity, the cells of an element, its length. -/
structure Tk where
  blk : Nat
  cap : Nat
  k : Nat
  len : Nat

def flat : List Value → List Value
  | [] => []
  | x :: xs => x.cells.toList ++ flat xs

def oneC (x : Value) : Prop := x.oneCell' = true

/-- From address a on, memory holds these values, in cells that never change. -/
def At (w : World) (I : Nat → Nat → Prop) (a : Addr) (ys : List Value) : Prop :=
  a.spot = none ∧ ∀ j y, ys[j]? = some y → w.cell? ⟨a.block, a.off + j, none⟩ = some y ∧ I a.block (a.off + j) ∧ oneC y

def TokOk (tok : Option Nat) (tk : List Tk) (len : Nat) (a : Addr) (cap k : Nat) : Prop :=
  ∀ t, tok = some t → ∃ T, tk[t]? = some T ∧ k = T.k ∧ len ≤ T.len ∧ (len = T.len → a = ⟨T.blk, 0, none⟩ ∧ cap = T.cap)

mutual
def Rel (w : World) (I : Nat → Nat → Prop) : D → List Nat → List Tk → Value → Prop
  | .undef, _, _, _ => True
  | .skip, _, _, x => x = Go.undef
  | .int k n, _, _, x => x = .int k n
  | .bool b, _, _, x => x = .bool b
  | .str s, _, _, x => x = .string ⟨s.toArray⟩
  | .lit v, _, _, x => x = v ∧ v.oneCell' = true
  | .slice es tok, _, tk, x => ∃ a cap k xs, x = .slice (some a) es.length cap ∧ es.length ≤ cap ∧ RelL w I es [] [] xs ∧
      (∀ y ∈ xs, y.cells.size = k) ∧ At w I a (flat xs) ∧ TokOk tok tk es.length a cap k
  | .agg cs, r, tk, x => ∃ xs, x = .agg xs.toArray ∧ RelL w I cs r tk xs ∧ ∀ y ∈ xs, oneC y
  | .tup vs, r, tk, x => ∃ xs, x = .tuple xs.toArray ∧ RelL w I vs r tk xs
  | .iface t d, r, tk, x => ∃ y, x = .iface t y ∧ Rel w I d r tk y
  | .fn f a c, r, tk, x => ∃ xs ys, x = .func f xs.toArray ys.toArray ∧ RelL w I a r tk xs ∧ RelL w I c r tk ys
  | .ptr b off, r, _, x => ∃ n, r[b]? = some n ∧ x = .pointer (some ⟨n, off, none⟩)
  | .ip cs, _, _, x => ∃ a xs, x = .pointer (some a) ∧ RelL w I cs [] [] xs ∧ At w I a xs
def RelL (w : World) (I : Nat → Nat → Prop) : List D → List Nat → List Tk → List Value → Prop
  | [], _, _, xs => xs = []
  | d :: ds, r, tk, xs => ∃ y ys, xs = y :: ys ∧ Rel w I d r tk y ∧ RelL w I ds r tk ys
end

def BlkRel (w : World) (I : Nat → Nat → Prop) (r : List Nat) (tk : List Tk) : Blk → Option Obj → Prop
  | .cells cs, o => ∃ xs e, o = some (.cells xs.toArray e (0, 0)) ∧ RelL w I cs r tk xs ∧ ∀ y ∈ xs, oneC y

/-- The abstract blocks H stand for the blocks r of the world. -/
structure HeapRel (w : World) (I : Nat → Nat → Prop) (r : List Nat) (tk : List Tk) (H : List Blk) : Prop where
  len : H.length = r.length
  blk : ∀ (b : Nat) (B : Blk) (n : Nat), H[b]? = some B → r[b]? = some n → BlkRel w I r tk B w.heap[n]?
  lt : ∀ n ∈ r, n < w.heap.size
  nodup : r.Nodup
  imm : ∀ b o, I b o → b < w.heap.size ∧ b ∉ r

/-- Nothing that was there has changed, but for the blocks r. -/
structure Keeps (w w' : World) (r : List Nat) : Prop where
  os : w'.os = w.os
  tape : w'.tape = w.tape
  output : w'.output = w.output
  size : w.heap.size ≤ w'.heap.size
  block : ∀ b, b < w.heap.size → b ∉ r → w'.heap[b]? = w.heap[b]?

/-- What a call leaves. -/
def Post (w : World) (I : Nat → Nat → Prop) (r : List Nat) (R : D → List Blk → Prop) (e : Ending) (w' : World) : Prop :=
  ∃ v d H' r' I', e = .returned v ∧ R d H' ∧ Rel w' I' d (r ++ r') [] v ∧ HeapRel w' I' (r ++ r') [] H' ∧ Keeps w w' r ∧
    (∀ n ∈ r', w.heap.size ≤ n) ∧ (∀ b o, I b o → I' b o) ∧ (∀ b o, I' b o → I b o ∨ w.heap.size ≤ b)

/-- A program, with what is known of its variables whenever a function is called. -/
structure Mod where
  P : Program
  amb : World → List Nat → Prop
  up : ∀ w r w' r', amb w r → Keeps w w' r → (∀ n ∈ r', n ∈ r ∨ w.heap.size ≤ n) → amb w' r'

/-- THE CONTRACT of a function at data values and abstract blocks. -/
def Spec (M : Mod) (f : FuncId) (args : List D) (H : List Blk) (R : D → List Blk → Prop) : Prop :=
  ∀ w I r xs, M.amb w r → HeapRel w I r [] H → RelL w I args r [] xs → Calls M.P f xs.toArray w (Post w I r R)

/-- A function with a body of its own. -/
def Callable (M : Mod) (f : FuncId) : Prop := ∃ fn, M.P.funcs[f]? = some fn ∧ fn.body.isNone = false ∧ (fn.name == "runtime.NumGoroutine") = false

/-- The contract of a function that computes: its result does not depend on memory, which it leaves as it is. -/
def Pur (M : Mod) (f : FuncId) (args : List D) (d : D) : Prop :=
  Callable M f ∧ Spec M f args [] fun d' H' => d' = d ∧ H' = []

/-- What one operation does, if it does not call. -/
def opWp (oc : OC) (ds : List D) (hp : Hp) (K : D → Hp → Prop) : Prop :=
  match oc, ds with
  | .mv, [x] => K x hp
  | .pick, [.bool t, a, b] => (t = true → K a hp) ∧ (t = false → K b hp)
  | .bin op, [x, y] => binWp op x y fun d => K d hp
  | .eqB neg, [.bool a, .bool b] => K (.bool (if neg then !(a == b) else a == b)) hp
  | .eqA neg ks, [.agg xs, .agg ys] => ∃ b, eqDs ks xs ys = some b ∧ K (.bool (if neg then !b else b)) hp
  | .eqN neg, [x, y] => (isNil y = some true ∧ ∃ b, isNil x = some b ∧ K (.bool (if neg then !b else b)) hp)
  | .un op, [x] => unWp op x fun d => K d hp
  | .cvI k, [.int _ n] => K (.int k (k.wrap n)) hp
  | .newb zero, [] => K (.ptr hp.H.length 0) { hp with H := hp.H ++ [.cells zero] }
  | .box, [x] => x.isVal = true ∧ K (.ptr hp.H.length 0) { hp with H := hp.H ++ [.cells x.cells] }
  | .bld zero parts, xs => ∃ cs, fillL zero parts xs = some cs ∧ K (.agg cs) hp
  | .ld ag n, [.ptr b off] => ∃ cs, hp.H[b]? = some (.cells cs) ∧ off + n ≤ cs.length ∧ K (if ag then .agg ((cs.drop off).take n) else cs.getD off .undef) hp
  | .ld ag n, [.ip cs] => n ≤ cs.length ∧ K (if ag then .agg (cs.take n) else cs.getD 0 .undef) hp
  | .st n, [.ptr b off, v] => ∃ cs, hp.H[b]? = some (.cells cs) ∧ v.isVal = true ∧ v.cells.length = n ∧ off + n ≤ cs.length ∧
      K .skip { hp with H := hp.H.set b (.cells (setL cs off v.cells)) }
  | .fld off, [.ptr b o] => K (.ptr b (o + off)) hp
  | .fld off, [.ip cs] => K (.ip (cs.drop off)) hp
  | .fv ag off n, [.agg cs] => off + n ≤ cs.length ∧ K (if ag then .agg ((cs.drop off).take n) else cs.getD off .undef) hp
  | .ixaA len k, [.ptr b o, .int _ i] => 0 ≤ i ∧ i < len ∧ K (.ptr b (o + i.toNat * k)) hp
  | .ixaA len k, [.ip cs, .int _ i] => 0 ≤ i ∧ i < len ∧ K (.ip (cs.drop (i.toNat * k))) hp
  | .ixaS k, [.slice es _, .int _ i] => 0 ≤ i ∧ i < es.length ∧ (es.getD i.toNat .undef).isVal = true ∧ (es.getD i.toNat .undef).cells.length = k ∧ K (.ip (es.getD i.toNat .undef).cells) hp
  | .ixvA ag len k, [.agg cs, .int _ i] => 0 ≤ i ∧ i < len ∧ len * k ≤ cs.length ∧ 0 < k ∧ K (if ag then .agg ((cs.drop (i.toNat * k)).take k) else cs.getD (i.toNat * k) .undef) hp
  | .ixvS, [.str s, .int _ i] => 0 ≤ i ∧ i < s.length ∧ K (.int .u8 (s.getD i.toNat 0).toNat) hp
  | .slcS false false, [.str s] => K (.str s) hp
  | .slcS true false, [.str s, .int _ l] => 0 ≤ l ∧ l ≤ s.length ∧ K (.str (s.drop l.toNat)) hp
  | .slcS false true, [.str s, .int _ h] => 0 ≤ h ∧ h ≤ s.length ∧ K (.str (s.take h.toNat)) hp
  | .slcS true true, [.str s, .int _ l, .int _ h] => 0 ≤ l ∧ l ≤ h ∧ h ≤ s.length ∧ K (.str ((s.take h.toNat).drop l.toNat)) hp
  | .ext i, [.tup vs] => i < vs.length ∧ K (vs.getD i .undef) hp
  | .lenA n, _ => K (.int .i64 n) hp
  | .lenS, [.str s] => K (.int .i64 s.length) hp
  | .lenL, [.slice es _] => K (.int .i64 es.length) hp
  | .lenL, [.lit (.slice none 0 0)] => K (.int .i64 0) hp
  | .minI, .int k n :: r => ∃ m, foldI (fun a b => if b < a then b else a) k n r = some m ∧ K (.int k m) hp
  | .maxI, .int k n :: r => ∃ m, foldI (fun a b => if b > a then b else a) k n r = some m ∧ K (.int k m) hp
  | .mkI t, [x] => K (.iface t x) hp
  | .mkF f n, xs => K (.fn f (xs.take n) (xs.drop n)) hp
  | _, _ => False

structure RO where
  dst : Dst
  oc : OC
  args : List Opd
  guard : Option (Opd × Bool)

def isCall : OC → Bool
  | .call => true
  | _ => false

end GoV
