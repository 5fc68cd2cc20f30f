/- The engine, part b: how data values stand for values in a world; contracts; the evaluation of resolved operations. Own work; no program in sight. -/
import Derived.Test.YtiodnobmnfjdlaaDoorEa
namespace GoV
open Go

/-- A slice that grows: its block (none as long as it has no room), its address, its capacity, the cells of an element, its length. -/
structure Tk where
  blk : Option Nat
  addr : Option Addr
  cap : Nat
  k : Nat
  len : Nat

def blks (l : List Tk) : List Nat := l.filterMap Tk.blk

def flat : List Value → List Value
  | [] => []
  | x :: xs => x.cells.toList ++ flat xs

def oneC (x : Value) : Prop := x.oneCell' = true

/-- What stands behind the numbers of data values: blocks, growing slices, the cells that never change. -/
structure Gh where
  r : List Nat
  tk : List Tk
  I : Nat → Nat → Prop

/-- The cells that never change, alone. -/
def Gh.cl (g : Gh) : Gh := ⟨[], [], g.I⟩

/-- From address a on, memory holds these values, in cells that never change. -/
def At (w : World) (I : Nat → Nat → Prop) (a : Addr) (ys : List Value) : Prop :=
  (ys ≠ [] → a.spot = none) ∧ ∀ j y, ys[j]? = some y → w.cell? ⟨a.block, a.off + j, none⟩ = some y ∧ I a.block (a.off + j) ∧ oneC y

def OwnOk (own : Own) (tk : List Tk) (len : Nat) (x : Value) (cap k : Nat) : Prop :=
  match own with
  | .no => True
  | .full => cap = len
  | .tok t => ∃ T, tk[t]? = some T ∧ k = T.k ∧ len ≤ T.len ∧ (len = T.len → x = .slice T.addr len T.cap)

mutual
def Rel (w : World) (g : Gh) : D → Value → Prop
  | .undef, _ => True
  | .skip, x => x = Go.undef
  | .int k n, x => x = .int k n
  | .bool b, x => x = .bool b
  | .str s, x => x = .string ⟨s.toArray⟩
  | .lit v, x => x = v ∧ v.oneCell' = true
  | .slice es own, x => ∃ a cap k xs, (x = .slice (some a) es.length cap ∨ (x = .slice none 0 0 ∧ es = [] ∧ cap = 0)) ∧ es.length ≤ cap ∧ RelL w g.cl es xs ∧
      (∀ y ∈ xs, y.cells.size = k) ∧ At w g.I a (flat xs) ∧ OwnOk own g.tk es.length x cap k
  | .agg cs, x => ∃ xs, x = .agg xs.toArray ∧ RelL w g cs xs ∧ ∀ y ∈ xs, oneC y
  | .tup vs, x => ∃ xs, x = .tuple xs.toArray ∧ RelL w g vs xs
  | .iface t d, x => ∃ y, x = .iface t y ∧ Rel w g d y
  | .fn f a c, x => ∃ xs ys, x = .func f xs.toArray ys.toArray ∧ RelL w g a xs ∧ RelL w g c ys
  | .ptr b off, x => ∃ n, g.r[b]? = some n ∧ x = .pointer (some ⟨n, off, none⟩)
  | .ip cs, x => ∃ a xs, x = .pointer (some a) ∧ RelL w g.cl cs xs ∧ At w g.I a xs
  | .sl b _ off len cap, x => ∃ n o, g.r[b]? = some n ∧ x = .slice (some ⟨n, o, none⟩) len cap ∧ (0 < cap → o = off)
  | .gs t n, x => ∃ a cap T, x = .slice a n cap ∧ (a = none → n = 0) ∧ g.tk[t]? = some T ∧ n ≤ T.len ∧ (n = T.len → a = T.addr ∧ cap = T.cap ∧ (0 < n → ∃ b, T.blk = some b))
  | .gp t n off, x => ∃ a T, x = .pointer (some a) ∧ g.tk[t]? = some T ∧ n ≤ T.len ∧ (n = T.len → ∃ b, T.blk = some b ∧ a = ⟨b, off, none⟩)
  | .mp b, x => ∃ n, g.r[b]? = some n ∧ x = .map (some n)
def RelL (w : World) (g : Gh) : List D → List Value → Prop
  | [], xs => xs = []
  | d :: ds, xs => ∃ y ys, xs = y :: ys ∧ Rel w g d y ∧ RelL w g ds ys
end

def BlkRel (w : World) (g : Gh) : Blk → Option Obj → Prop
  | .cells cs, o => ∃ xs e, o = some (.cells xs.toArray e (0, 0)) ∧ RelL w g cs xs ∧ ∀ y ∈ xs, oneC y
  | .gone, _ => True
  | .map es, o => ∃ ents clock, o = some (.map ents clock) ∧ RelL w g (es.map (·.1)) (ents.toList.map (·.key)) ∧ RelL w g (es.map (·.2)) (ents.toList.map (·.val)) ∧
      (ents.toList.map (·.born)).Pairwise (· < ·) ∧ ∀ e ∈ ents.toList, e.born < clock
  | .siter s p, o => o = some (.stringIter ⟨s.toArray⟩ p)
  | .tcells e cs, o => ∃ xs, o = some (.cells xs.toArray e (0, 0)) ∧ RelL w g cs xs ∧ ∀ y ∈ xs, oneC y

/-- The cells of a block, whether its type is known or not; a block with other cells. -/
def Blk.csq : Blk → Option (List D)
  | .cells cs => some cs
  | .tcells _ cs => some cs
  | _ => none
def Blk.putc (cs : List D) : Blk → Blk
  | .tcells e _ => .tcells e cs
  | _ => .cells cs

def TvRel (w : World) (g : Gh) (T : Tk) : Tv → Prop
  | .per k len => k = T.k ∧ len = T.len ∧ ∀ b, T.blk = some b → ∀ o, g.I b o → o < T.len * T.k
  | .chg k cs => k = T.k ∧ cs.length = T.len * T.k ∧ (T.blk = none → T.len = 0 ∧ T.addr = none) ∧ ∀ b, T.blk = some b → (∀ o, ¬ g.I b o) ∧ ∃ xs e, w.heap[b]? = some (.cells xs e (0, 0)) ∧ RelL w g cs (xs.toList.take (T.len * T.k))
  | .byt e bs => T.k = 1 ∧ bs.length = T.len ∧ (T.blk = none → T.len = 0 ∧ T.addr = none) ∧ ∀ b, T.blk = some b → (∀ o, ¬ g.I b o) ∧ ∃ xs, w.heap[b]? = some (.cells xs e (0, 0)) ∧ xs.toList.take T.len = bs.map fun c => Value.int .u8 c.toNat

/-- The block of a growing slice. -/
def TkOk (w : World) (g : Gh) (T : Tk) : Prop :=
  0 < T.k ∧ (T.blk = none → T.len = T.cap) ∧
    ∀ b, T.blk = some b → T.addr = some ⟨b, 0, none⟩ ∧ b ∉ g.r ∧ T.len ≤ T.cap ∧ ∃ xs e, w.heap[b]? = some (.cells xs e (0, 0)) ∧ xs.size = T.cap * T.k ∧ ∀ y ∈ xs.toList, oneC y

/-- The abstract store stands for the world. -/
structure HeapRel (w : World) (g : Gh) (hp : Hp) : Prop where
  len : hp.H.length = g.r.length
  blk : ∀ (b : Nat) (B : Blk) (n : Nat), hp.H[b]? = some B → g.r[b]? = some n → BlkRel w g B w.heap[n]?
  lt : ∀ n ∈ g.r, n < w.heap.size
  nodup : g.r.Nodup
  lent : hp.tk.length = g.tk.length
  tv : ∀ (t : Nat) (V : Tv) (T : Tk), hp.tk[t]? = some V → g.tk[t]? = some T → TvRel w g T V
  tok : ∀ T ∈ g.tk, TkOk w g T
  tokd : (blks g.tk).Nodup
  imm : ∀ b o, g.I b o → b < w.heap.size ∧ ∀ i : Nat, g.r[i]? = some b → hp.H[i]? = some Blk.gone

/-- Nothing that was there has changed, but for the blocks r. -/
structure Keeps (w w' : World) (r : List Nat) : Prop where
  os : w'.os = w.os
  tape : w'.tape = w.tape
  output : w'.output = w.output
  size : w.heap.size ≤ w'.heap.size
  block : ∀ b, b < w.heap.size → b ∉ r → w'.heap[b]? = w.heap[b]?

/-- How a world and what stands behind the numbers may go on. -/
structure Evo (w : World) (g : Gh) (w' : World) (g' : Gh) : Prop where
  imm : ∀ b o, g.I b o → g'.I b o ∧ w'.cell? ⟨b, o, none⟩ = w.cell? ⟨b, o, none⟩
  ref : ∀ (b n : Nat), g.r[b]? = some n → g'.r[b]? = some n
  tok : ∀ (t : Nat) (T : Tk), g.tk[t]? = some T → ∃ T', g'.tk[t]? = some T' ∧ T'.k = T.k ∧ (T' = T ∨ T.len < T'.len)

def Gh.own (g : Gh) : List Nat := g.r ++ blks g.tk

/-- What a function keeps true of the world while it runs. -/
structure Inv (w0 : World) (g0 : Gh) (hp : Hp) (w : World) (g : Gh) : Prop where
  heap : HeapRel w g hp
  evo : Evo w0 g0 w g
  keeps : Keeps w0 w g0.own
  newr : ∀ n ∈ g.r, n ∈ g0.r ∨ w0.heap.size ≤ n
  newt : ∀ n ∈ blks g.tk, n ∈ blks g0.tk ∨ w0.heap.size ≤ n
  i1 : ∀ b o, g.I b o → g0.I b o ∨ w0.heap.size ≤ b ∨ b ∈ blks g0.tk

/-- What a call leaves. -/
def Post (w : World) (g : Gh) (R : D → Hp → Prop) (e : Ending) (w' : World) : Prop :=
  ∃ v d hp' g', e = .returned v ∧ R d hp' ∧ Inv w g hp' w' g' ∧ Rel w' g' d v

/-- A program, with what is known of its variables whenever a function is called. -/
structure Mod where
  P : Program
  amb : World → List Nat → Prop
  up : ∀ w r w' r', amb w r → Keeps w w' r → (∀ n ∈ r', n ∈ r ∨ w.heap.size ≤ n) → amb w' r'

/-- THE CONTRACT of a function at data values and an abstract store. -/
def Spec (M : Mod) (f : FuncId) (args : List D) (hp : Hp) (R : D → Hp → Prop) : Prop :=
  ∀ w g xs, M.amb w g.own → HeapRel w g hp → RelL w g args xs → Calls M.P f xs.toArray w (Post w g R)

/-- A function with a body of its own. -/
def Callable (M : Mod) (f : FuncId) : Prop := ∃ fn, M.P.funcs[f]? = some fn ∧ fn.body.isNone = false ∧ (fn.name == "runtime.NumGoroutine") = false

/-- The contract of a function that changes the abstract store. -/
def Eff (M : Mod) (f : FuncId) (args : List D) (hp : Hp) (R : D → Hp → Prop) : Prop := Callable M f ∧ Spec M f args hp R

/-- The contract of a function that computes: its result does not depend on memory, which it leaves as it is. -/
def Pur (M : Mod) (f : FuncId) (args : List D) (d : D) : Prop :=
  Callable M f ∧ Spec M f args ⟨[], []⟩ fun d' hp' => d' = d ∧ hp' = ⟨[], []⟩

/-- The elements of what is appended or copied. -/
def elemsOf (hp : Hp) (k : Nat) : D → Option (List D)
  | .slice es _ => some es
  | .lit (.slice none 0 0) => some []
  | .str s => some (s.map fun b => .int .u8 b.toNat)
  | .sl b k' off len cap => if k' = k ∧ len ≤ cap then match hp.H[b]? with
    | some (.cells cs) => if off + len * k ≤ cs.length then some (chunk k len (cs.drop off)) else none
    | _ => none
    else none
  | .gs t n => match hp.tk[t]? with
    | some (.chg k' cs) => if k' = k ∧ cs.length = n * k then some (chunk k n cs) else none
    | _ => none
  | _ => none

def isStr : D → Bool
  | .str _ => true
  | _ => false

def bytesOf : List D → Option (List UInt8)
  | [] => some []
  | .int .u8 n :: r => match bytesOf r with
    | some s => some (UInt8.ofNat n.toNat :: s)
    | none => none
  | _ :: _ => none

/-- Bytes, each of which is one. -/
def bytesB : List D → Option (List UInt8)
  | [] => some []
  | .int .u8 n :: r => match bytesB r with
    | some s => if 0 ≤ n ∧ n ≤ 255 then some (UInt8.ofNat n.toNat :: s) else none
    | none => none
  | _ :: _ => none

/-- Room for so many bytes. -/
def roomOk (n bytes : Nat) : Prop := n * bytes ≤ 140737488355328 ∧ n ≤ 140737488355328

/-- append, at evaluated operands: the elements es behind s. -/
def appWp (k bytes : Nat) (e : TypeId) (s : D) (es : List D) (hp : Hp) (K : D → Hp → Prop) : Prop :=
  elemsK k es = true ∧
  match s with
  | .lit (.slice none 0 0) => roomOk es.length bytes ∧
      ((D.closedL es = true ∧ (K (.slice (D.erL es) .no) hp ∨ K (.slice (D.erL es) (.tok hp.tk.length)) { hp with tk := hp.tk ++ [.per k es.length] })) ∨
        K (.gs hp.tk.length es.length) { hp with tk := hp.tk ++ [.chg k (flatD es)] })
  | .slice xs .full => roomOk (xs.length + es.length) bytes ∧ D.closedL es = true ∧ elemsK k xs = true ∧ 0 < k ∧
      (K (.slice (xs ++ D.erL es) .no) hp ∨ K (.slice (xs ++ D.erL es) (.tok hp.tk.length)) { hp with tk := hp.tk ++ [.per k (xs.length + es.length)] })
  | .slice xs (.tok t) => roomOk (xs.length + es.length) bytes ∧ D.closedL es = true ∧ hp.tk[t]? = some (.per k xs.length) ∧
      K (.slice (xs ++ D.erL es) (.tok t)) { hp with tk := hp.tk.set t (.per k (xs.length + es.length)) }
  | .gs t n => roomOk (n + es.length) bytes ∧ ((∃ cs, hp.tk[t]? = some (.chg k cs) ∧ cs.length = n * k ∧
      K (.gs t (n + es.length)) { hp with tk := hp.tk.set t (.chg k (cs ++ flatD es)) }) ∨
      ∃ bs s', k = 1 ∧ hp.tk[t]? = some (.byt e bs) ∧ bs.length = n ∧ bytesB es = some s' ∧ K (.gs t (n + es.length)) { hp with tk := hp.tk.set t (.byt e (bs ++ s')) })
  | _ => False

def zeros (zero : List D) : Nat → List D
  | 0 => []
  | n + 1 => zero ++ zeros zero n

/-- What one operation does, if it does not call. -/
def opWp (oc : OC) (ds : List D) (hp : Hp) (K : D → Hp → Prop) : Prop :=
  match oc, ds with
  | .mv, [x] => K x hp
  | .nck, [.ptr b o] => K (.ptr b o) hp
  | .nck, [.ip cs] => K (.ip cs) hp
  | .nck, [.gp t n o] => K (.gp t n o) hp
  | .pick, [.bool t, a, b] => (t = true → K a hp) ∧ (t = false → K b hp)
  | .bin op, [x, y] => binWp op x y fun d => K d hp
  | .eqB neg, [.bool a, .bool b] => K (.bool (if neg then !(a == b) else a == b)) hp
  | .eqA neg ks, [.agg xs, .agg ys] => ∃ b, eqDs ks xs ys = some b ∧ K (.bool (if neg then !b else b)) hp
  | .eqN neg, [x, y] => (isNil y = some true ∧ ∃ b, isNil x = some b ∧ K (.bool (if neg then !b else b)) hp)
  | .un op, [x] => unWp op x fun d => K d hp
  | .cvI k, [.int _ n] => K (.int k (k.wrap n)) hp
  | .newb zero, [] => K (.ptr hp.H.length 0) { hp with H := hp.H ++ [.cells zero] }
  | .newT e zero, [] => K (.ptr hp.H.length 0) { hp with H := hp.H ++ [.tcells e zero] }
  | .box, [x] => x.isVal = true ∧ K (.ptr hp.H.length 0) { hp with H := hp.H ++ [.cells x.cells] }
  | .bld zero parts, xs => ∃ cs, fillL zero parts xs = some cs ∧ K (.agg cs) hp
  | .bsl k, xs => elemsK k xs = true ∧ xs.length * k ≤ 16777216 ∧
      ((D.closedL xs = true ∧ K (.slice (D.erL xs) .full) hp) ∨ K (.sl hp.H.length k 0 xs.length xs.length) { hp with H := hp.H ++ [.cells (flatD xs)] })
  | .mks k bytes zero, [.int _ l, .int _ c] => 0 ≤ l ∧ l ≤ c ∧ roomOk c.toNat bytes ∧
      (K (.sl hp.H.length k 0 l.toNat c.toNat) { hp with H := hp.H ++ [.cells (zeros zero c.toNat)] } ∨
        (0 < k ∧ l = 0 ∧ (K (.slice [] (.tok hp.tk.length)) { hp with tk := hp.tk ++ [.per k 0] } ∨ K (.gs hp.tk.length 0) { hp with tk := hp.tk ++ [.chg k []] })))
  | .ld ag n, [.ptr b off] => ∃ B cs, hp.H[b]? = some B ∧ B.csq = some cs ∧ off + n ≤ cs.length ∧ K (if ag then .agg ((cs.drop off).take n) else cs.getD off .undef) hp
  | .ld ag n, [.gp t m off] => ∃ k cs, hp.tk[t]? = some (.chg k cs) ∧ cs.length = m * k ∧ off + n ≤ cs.length ∧ K (if ag then .agg ((cs.drop off).take n) else cs.getD off .undef) hp
  | .ld ag n, [.ip cs] => 0 < n ∧ n ≤ cs.length ∧ K (if ag then .agg (cs.take n) else cs.getD 0 .undef) hp
  | .st n, [.ptr b off, v] => ∃ B cs, hp.H[b]? = some B ∧ B.csq = some cs ∧ v.isVal = true ∧ v.cells.length = n ∧ off + n ≤ cs.length ∧
      K .skip { hp with H := hp.H.set b (B.putc (setL cs off v.cells)) }
  | .st n, [.gp t m off, v] => ∃ k cs, hp.tk[t]? = some (.chg k cs) ∧ cs.length = m * k ∧ v.isVal = true ∧ v.cells.length = n ∧ off + n ≤ cs.length ∧
      K .skip { hp with tk := hp.tk.set t (.chg k (setL cs off v.cells)) }
  | .fld off, [.ptr b o] => K (.ptr b (o + off)) hp
  | .fld off, [.ip cs] => K (.ip (cs.drop off)) hp
  | .fld off, [.gp t m o] => K (.gp t m (o + off)) hp
  | .fv ag off n, [.agg cs] => off + n ≤ cs.length ∧ K (if ag then .agg ((cs.drop off).take n) else cs.getD off .undef) hp
  | .ixaA len k, [.ptr b o, .int _ i] => 0 ≤ i ∧ i < len ∧ K (.ptr b (o + i.toNat * k)) hp
  | .ixaA len k, [.ip cs, .int _ i] => 0 ≤ i ∧ i < len ∧ K (.ip (cs.drop (i.toNat * k))) hp
  | .ixaA len k, [.gp t m o, .int _ i] => 0 ≤ i ∧ i < len ∧ K (.gp t m (o + i.toNat * k)) hp
  | .ixaS k, [.slice es _, .int _ i] => 0 ≤ i ∧ i < es.length ∧ (es.getD i.toNat .undef).isVal = true ∧ (es.getD i.toNat .undef).cells.length = k ∧ K (.ip (es.getD i.toNat .undef).cells) hp
  | .ixaS k, [.sl b k' off len cap, .int _ i] => 0 ≤ i ∧ i < len ∧ len ≤ cap ∧ k' = k ∧ K (.ptr b (off + i.toNat * k)) hp
  | .ixaS k, [.gs t n, .int _ i] => 0 ≤ i ∧ i < n ∧ K (.gp t n (i.toNat * k)) hp
  | .ixvA ag len k, [.agg cs, .int _ i] => 0 ≤ i ∧ i < len ∧ len * k ≤ cs.length ∧ 0 < k ∧ K (if ag then .agg ((cs.drop (i.toNat * k)).take k) else cs.getD (i.toNat * k) .undef) hp
  | .ixvS, [.str s, .int _ i] => 0 ≤ i ∧ i < s.length ∧ K (.int .u8 (s.getD i.toNat 0).toNat) hp
  | .slcS false false, [.str s] => K (.str s) hp
  | .slcS true false, [.str s, .int _ l] => 0 ≤ l ∧ l ≤ s.length ∧ K (.str (s.drop l.toNat)) hp
  | .slcS false true, [.str s, .int _ h] => 0 ≤ h ∧ h ≤ s.length ∧ K (.str (s.take h.toNat)) hp
  | .slcS true true, [.str s, .int _ l, .int _ h] => 0 ≤ l ∧ l ≤ h ∧ h ≤ s.length ∧ K (.str ((s.take h.toNat).drop l.toNat)) hp
  | .slcL k lo hi, x :: is => ∃ l h : Int, (match lo, hi, is with
      | false, false, [] => l = 0 ∧ h = dlen x
      | true, false, [.int _ a] => l = a ∧ h = dlen x
      | false, true, [.int _ b] => l = 0 ∧ h = b
      | true, true, [.int _ a, .int _ b] => l = a ∧ h = b
      | _, _, _ => False) ∧ 0 ≤ l ∧ l ≤ h ∧ h ≤ dlen x ∧ (match x with
      | .slice es _ => elemsK k es = true ∧ K (.slice ((es.take h.toNat).drop l.toNat) .no) hp
      | .lit (.slice none 0 0) => K (.lit (.slice none 0 0)) hp
      | .sl b k' off len cap => k' = k ∧ len ≤ cap ∧ K (.sl b k (off + l.toNat * k) (h.toNat - l.toNat) (cap - l.toNat)) hp
      | _ => False)
  | .slcA n k lo hi, .ptr b off :: is => ∃ l h : Int, (match lo, hi, is with
      | false, false, [] => l = 0 ∧ h = n
      | true, false, [.int _ a] => l = a ∧ h = n
      | false, true, [.int _ b] => l = 0 ∧ h = b
      | true, true, [.int _ a, .int _ b] => l = a ∧ h = b
      | _, _, _ => False) ∧ 0 ≤ l ∧ l ≤ h ∧ h ≤ n ∧ K (.sl b k (off + l.toNat * k) (h.toNat - l.toNat) (n - l.toNat)) hp
  | .cvS, [.str s] => K (.str s) hp
  | .b2s, [x] => isStr x = false ∧ ∃ es s, elemsOf hp 1 x = some es ∧ bytesOf es = some s ∧ K (.str s) hp
  | .cpy k, [.sl b k' off len cap, x] => k' = k ∧ ∃ cs es, hp.H[b]? = some (.cells cs) ∧ off + len * k ≤ cs.length ∧ len ≤ cap ∧ elemsOf hp k x = some es ∧ elemsK k es = true ∧
      K (.int .i64 (min es.length len : Nat)) { hp with H := hp.H.set b (.cells (setL cs off (flatD (es.take len)))) }
  | .rngS, [.str s] => K (.ptr hp.H.length 0) { hp with H := hp.H ++ [.siter s 0] }
  | .nxtS, [.ptr b 0] => ∃ s p, hp.H[b]? = some (.siter s p) ∧
      (p < s.length → K (.tup [.bool true, .int .i64 p, .int .i32 (Utf8.decode ⟨s.toArray⟩ p).1]) { hp with H := hp.H.set b (.siter s (p + (Utf8.decode ⟨s.toArray⟩ p).2)) }) ∧
      (s.length ≤ p → K (.tup [.bool false]) hp)
  | .ext i, [.tup vs] => i < vs.length ∧ K (vs.getD i .undef) hp
  | .lenA n, _ => K (.int .i64 n) hp
  | .lenS, [.str s] => K (.int .i64 s.length) hp
  | .lenL, [.slice es _] => K (.int .i64 es.length) hp
  | .lenL, [.lit (.slice none 0 0)] => K (.int .i64 0) hp
  | .lenL, [.sl _ _ _ len _] => K (.int .i64 len) hp
  | .lenL, [.gs _ n] => K (.int .i64 n) hp
  | .minI, .int k n :: r => ∃ m, foldI (fun a b => if b < a then b else a) k n r = some m ∧ K (.int k m) hp
  | .maxI, .int k n :: r => ∃ m, foldI (fun a b => if b > a then b else a) k n r = some m ∧ K (.int k m) hp
  | .app k bytes e, [s, x] => ∃ es, elemsOf hp k x = some es ∧ appWp k bytes e s es hp K
  | .mkI t, [x] => K (.iface t x) hp
  | .mkF f n, xs => K (.fn f (xs.take n) (xs.drop n)) hp
  | _, _ => False

structure RO where
  dst : Dst
  oc : OC
  args : List Opd
  guard : Option (Opd × Bool)

def isCall : OC → Bool
  | .call => true
  | _ => false

/-- What it does depends on its operands alone, and it leaves the store as it is. -/
def isFree : OC → Bool
  | .mv | .nck | .pick | .bin _ | .eqB _ | .eqA _ _ | .eqN _ | .un _ | .cvI _ | .bld _ _ | .fld _ | .fv _ _ _ | .ixaA _ _ | .ixaS _ | .ixvA _ _ _ | .ixvS | .slcS _ _ | .slcL _ _ _ | .slcA _ _ _ _ | .cvS | .ext _ | .lenS | .lenL | .lenA _ | .minI | .maxI | .mkI _ | .mkF _ _ => true
  | _ => false

/-- It may change the store. -/
def isEff : OC → Bool
  | .newb _ | .newT _ _ | .box | .st _ | .app _ _ _ | .bsl _ | .mks _ _ _ | .cpy _ | .rngS | .nxtS | .call => true
  | _ => false

end GoV
