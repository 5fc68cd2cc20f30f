/- The engine, part d: operations are checked against the program's types. Own work; no program in sight. -/
import Derived.Test.YtiodnobmnfjdlaaDoorEc
namespace GoV
open Go

def toD : Value → Option D
  | .int k n => some (.int k n)
  | .bool b => some (.bool b)
  | .string s => some (.str s.data.toList)
  | .agg _ => none
  | .tuple _ => none
  | v => some (.lit v)

def toDs : List Value → Option (List D)
  | [] => some []
  | v :: vs =>
    match toD v, toDs vs with
    | some d, some ds => some (d :: ds)
    | _, _ => none

def szOf (P : Program) (t : TypeId) : Option Nat := (P.info? t).map (·.size)

def zeroDs (P : Program) (t : TypeId) : Option (List D) :=
  match P.info? t with
  | some i => match i.zero with
    | some z => toDs z.cells.toList
    | none => none
  | none => none

def places (P : Program) (fs : List Field) : Option (List (Nat × Nat)) :=
  fs.mapM (fun f => (P.info? f.type).map fun i => (f.offset, i.size))

def pick (ps : List (Nat × Nat)) : List Nat → Option (List (Nat × Nat))
  | [] => some []
  | i :: is =>
    match ps[i]?, pick ps is with
    | some p, some r => some (p :: r)
    | _, _ => none

/-- Kinds of the fields of a struct all of whose fields are plain, one cell each, in order. -/
def plainKinds (P : Program) : Nat → List Field → Option (List EK)
  | _, [] => some []
  | n, f :: fs =>
    if f.offset = n ∧ f.name ≠ "_" then
      match P.underlying f.type, plainKinds P (n + 1) fs with
      | some (.int _), some r => some (.int :: r)
      | some .bool, some r => some (.bool :: r)
      | some .string, some r => some (.str :: r)
      | _, _ => none
    else none

def isRowT : TypeDesc → Bool
  | .struct _ => true
  | .array _ _ => true
  | _ => false

def nilable : TypeDesc → Bool
  | .pointer _ => true
  | .slice _ => true
  | .map _ _ => true
  | .func _ _ _ => true
  | .interface _ => true
  | _ => false

def isConstO : Operand → Bool
  | .const _ => true
  | _ => false

def resBin (P : Program) (op : BinOp) (t : TypeId) (x y : Operand) : Option (OC × List Operand) :=
  match P.underlying t with
  | some (.int _) => some (.bin op, [x, y])
  | some .string => some (.bin op, [x, y])
  | some .bool =>
    match op with
    | .eql => some (.eqB false, [x, y])
    | .neq => some (.eqB true, [x, y])
    | _ => none
  | some (.struct fs) =>
    if P.stoodInHeld t = false ∧ P.eqGuardType P.depth t = false then
      match op, plainKinds P 0 fs.toList with
      | .eql, some ks => some (.eqA false ks, [x, y])
      | .neq, some ks => some (.eqA true ks, [x, y])
      | _, _ => none
    else none
  | _ => none

/-- The cells and the bytes of an element, where one may append. -/
def resApp (P : Program) (t u : TypeId) : Option (Nat × Nat) :=
  match P.underlying t with
  | some (.slice e) =>
    match P.info? e, zeroDs P e with
    | some i, some z =>
      if z.length = i.size ∧ 0 < i.size ∧ (match P.underlying u with | some (.slice _) => true | some .string => true | _ => false) = true then some (i.size, i.bytes) else none
    | _, _ => none
  | _ => none

def resMks (P : Program) (t : TypeId) : Option OC :=
  match P.underlying t with
  | some (.slice e) =>
    match P.info? e, zeroDs P e with
    | some i, some z => if z.length = i.size then some (.mks i.size i.bytes z) else none
    | _, _ => none
  | _ => none

def resBsl (P : Program) (t : TypeId) (len : Nat) (parts : List Nat) : Option OC :=
  match P.underlying t with
  | some (.slice e) =>
    match szOf P e, zeroDs P e with
    | some k, some z => if parts = List.range len ∧ z.length = k ∧ 0 < k then some (.bsl k) else none
    | _, _ => none
  | _ => none

def resCv (P : Program) (src dst : TypeId) : Option OC :=
  match P.underlying src, P.underlying dst with
  | some (.int _), some (.int k) => some (.cvI k)
  | some (.slice e), some .string =>
    match P.underlying e with
    | some (.int .u8) => some .b2s
    | _ => none
  | some .string, some .string => some .cvS
  | _, _ => none

def resSlc (P : Program) (t : TypeId) (lo hi : Bool) : Option OC :=
  match P.underlying t with
  | some .string => some (.slcS lo hi)
  | some (.slice e) => (szOf P e).map fun k => .slcL k lo hi
  | some (.array n e) => (szOf P e).map fun k => .slcA n k lo hi
  | _ => none

def resCall (P : Program) (c : Call) : Option (OC × List Operand) :=
  match c.callee with
  | .value f => some (.call, f :: c.args.toList)
  | .builtin .len =>
    match c.argTypes[0]?, c.args.toList with
    | some t, [x] =>
      match P.underlying t with
      | some .string => some (.lenS, [x])
      | some (.slice _) => some (.lenL, [x])
      | some (.array n _) => some (.lenA n, [x])
      | _ => none
    | _, _ => none
  | .builtin .append =>
    match c.argTypes.toList, c.args.toList with
    | [t, u], [s, x] => (resApp P t u).map fun p => (.app p.1 p.2 (match P.underlying t with | some (.slice e) => e | _ => 0), [s, x])
    | _, _ => none
  | .builtin .copy =>
    match c.argTypes[0]?, c.args.toList with
    | some t, [s, x] =>
      match P.underlying t with
      | some (.slice e) => (szOf P e).map fun k => (.cpy k, [s, x])
      | _ => none
    | _, _ => none
  | .builtin .min => some (.minI, c.args.toList)
  | .builtin .max => some (.maxI, c.args.toList)
  | _ => none

/-- Types whose variables keep their type in the store: the model's conversions of their addresses ask for it. -/
def typed (P : Program) (t : TypeId) : Bool :=
  match P.typeName? 3 t with
  | some n => n == "strings.Builder" || n == "record.writer"
  | none => false

def resolveOp (P : Program) : Op → Option (OC × List Operand)
  | .move x => some (.mv, [x])
  | .assign x => some (.mv, [x])
  | .nilCheck x => some (.nck, [x])
  | .pick c a b => some (.pick, [c, a, b])
  | .alloc t => (zeroDs P t).map fun z => (if typed P t then .newT t z else .newb z, [])
  | .box _ x => some (.box, [x])
  | .build t parts =>
    match zeroDs P t, P.underlying t with
    | some z, some (.struct fs) =>
      match places P fs.toList with
      | some ps => (pick ps (parts.toList.map (·.1))).map fun q => (.bld z q, parts.toList.map (·.2))
      | none => none
    | some z, some (.array _ e) => (szOf P e).map fun n => (.bld z (parts.toList.map fun p => (p.1 * n, n)), parts.toList.map (·.2))
    | _, _ => none
  | .load t x =>
    match szOf P t, P.underlying t with
    | some n, some d => if isRowT d then some (.ld true n, [x]) else some (.ld false 1, [x])
    | _, _ => none
  | .store t a v => (szOf P t).map fun n => (.st n, [a, v])
  | .binOp op t x y _ => resBin P op t x y
  | .unOp op _ x => some (.un op, [x])
  | .convert src dst x => (resCv P src dst).map fun oc => (oc, [x])
  | .buildSlice t len parts => (resBsl P t len (parts.toList.map (·.1))).map fun oc => (oc, parts.toList.map (·.2))
  | .makeSlice t l c => (resMks P t).map fun oc => (oc, [l, c])
  | .range t x =>
    match P.underlying t with
    | some .string => some (.rngS, [x])
    | _ => none
  | .next it true => some (.nxtS, [it])
  | .makeInterface t x => if P.concrete t then some (.mkI t, [x]) else none
  | .makeFunc f first cap => some (.mkF f first.size, first.toList ++ cap.toList)
  | .slice t x lo hi mx =>
    match mx with
    | none => (resSlc P t lo.isSome hi.isSome).map fun oc => (oc, x :: (lo.toList ++ hi.toList))
    | some _ => none
  | .fieldAddr t x f =>
    match P.underlying t with
    | some (.struct fs) =>
      match fs[f]? with
      | some fl => match szOf P fl.type with
        | some (_ + 1) => some (.fld fl.offset, [x])
        | _ => none
      | none => none
    | _ => none
  | .field t x f =>
    match P.underlying t with
    | some (.struct fs) =>
      match fs[f]? with
      | some fl => match szOf P fl.type, P.underlying fl.type with
        | some n, some d => if isRowT d then some (.fv true fl.offset n, [x]) else some (.fv false fl.offset 1, [x])
        | _, _ => none
      | none => none
    | _ => none
  | .indexAddr t x i =>
    match P.underlying t with
    | some (.array n e) => (szOf P e).map fun k => (.ixaA n k, [x, i])
    | some (.slice e) => (szOf P e).map fun k => (.ixaS k, [x, i])
    | _ => none
  | .index t x i =>
    match P.underlying t with
    | some (.array n e) =>
      match szOf P e, P.underlying e with
      | some k, some d => if isRowT d then some (.ixvA true n k, [x, i]) else if k = 1 then some (.ixvA false n 1, [x, i]) else none
      | _, _ => none
    | some .string => some (.ixvS, [x, i])
    | _ => none
  | .extract t i => some (.ext i, [t])
  | .call c => resCall P c
  | _ => none

end GoV
