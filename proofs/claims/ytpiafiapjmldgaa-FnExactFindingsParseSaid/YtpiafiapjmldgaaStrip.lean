/-
  The abstract code of a function, computed from its operations.
-/
import Derived.Test.YtpiafiapjmldgaaInv
namespace Go.Proofs.Ytpiafiapjmldgaa
set_option linter.all false

def constCell : Value → Option V
  | .bool b => some (.bool b)
  | .int k n => some (.int k n)
  | .string s => some (.str s.data.toList)
  | .slice none 0 0 => some .nils
  | .pointer none => some .nilp
  | _ => none

def constCells : List Value → Option (List V)
  | [] => some []
  | v :: r => match constCell v, constCells r with
    | some x, some l => some (x :: l)
    | _, _ => none

def constV : Value → Option V
  | .agg cs => match constCells cs.toList with
    | some l => some (.agg l)
    | none => none
  | v => constCell v

def stripX (L : Nat → Bool) : Operand → Option AX
  | .tmp t => some (if L t then .l t else .g t)
  | .const v => match constV v with
    | some x => some (.c x)
    | none => none
  | .global _ => none
  | .func f => some (.f f)

def stripD (L : Nat → Bool) (n : Nat) : Option Tmp → Option AD
  | none => some .no
  | some d => if d < n then some (if L d then .l d else .g d) else none

def stripXs (L : Nat → Bool) : List Operand → Option (List AX)
  | [] => some []
  | x :: r => match stripX L x, stripXs L r with
    | some y, some l => some (y :: l)
    | _, _ => none

def sizeT (P : Program) (t : TypeId) : Option Nat := (P.info? t).map (·.size)

/-- The cells of a type's zero value. -/
def zeroT (P : Program) (t : TypeId) : Option (List V) :=
  match P.info? t with
  | some i => match i.zero with
    | some z => constCells z.cells.toList
    | none => none
  | none => none

def zeroV (P : Program) (t : TypeId) : Option V :=
  match P.info? t with
  | some i => match i.zero with
    | some z => constV z
    | none => none
  | none => none

def aggT (P : Program) (t : TypeId) : Option Bool :=
  match P.underlying t with
  | some (.struct _) => some true
  | some (.array _ _) => some true
  | some _ => some false
  | none => none

def stripParts (P : Program) (L : Nat → Bool) (place : Nat → Option (Nat × Nat)) : List (Nat × Operand) → Option (List (Nat × Nat × AX))
  | [] => some []
  | (i, x) :: r => match place i, stripX L x, stripParts P L place r with
    | some (off, size), some y, some l => some ((off, size, y) :: l)
    | _, _, _ => none

/-- The kinds of the cells of a flat struct. -/
def flatF (P : Program) (i : Nat) : List Field → Option (List Nat)
  | [] => some []
  | f :: r => match flatF P (i + 1) r, aggT P f.type, sizeT P f.type, P.underlying f.type with
    | some l, some false, some 1, some u => if f.name ≠ "_" ∧ f.offset = i then (match u with
      | .int _ => some (0 :: l)
      | .bool => some (1 :: l)
      | .string => some (2 :: l)
      | _ => none) else none
    | _, _, _, _ => none

/-- The parts of a slice's literal: all of them, in order. -/
def stripLits (L : Nat → Bool) (k : Nat) : List (Nat × Operand) → Option (List AX)
  | [] => some []
  | (i, x) :: r => if i = k then match stripX L x, stripLits L (k + 1) r with
      | some y, some l => some (y :: l)
      | _, _ => none
    else none

def stripXO (L : Nat → Bool) : Option Operand → Option (Option AX)
  | none => some none
  | some x => match stripX L x with
    | some y => some (some y)
    | none => none

def stripBuiltin (P : Program) (L : Nat → Bool) (b : Builtin) (args : List AX) (ts : List TypeId) : Option AO :=
  match b, args, ts with
  | .len, [x], [t] => match P.underlying t with
    | some .string => some (.lenStr x)
    | some (.slice _) => some (.len x)
    | some (.array n _) => some (.lenArr n)
    | _ => none
  | .min, [x, y], _ => some (.min x y)
  | .max, [x, y], _ => some (.max x y)
  | .append, [x, y], [t, u] => match P.underlying t, P.underlying u with
    | some (.slice e), some (.slice _) => match P.info? e with
      | some i => match i.zero with
        | some z => if t = u ∧ z.cells.size = i.size ∧ 0 < i.bytes then some (.append i.size i.bytes x y) else none
        | none => none
      | none => none
    | some (.slice e), some .string => match P.info? e with
      | some i => match i.zero with
        | some z => if z.cells.size = 1 ∧ i.size = 1 ∧ i.bytes = 1 then some (.appStr e x y) else none
        | none => none
      | none => none
    | _, _ => none
  | _, _, _ => none

def stripO (P : Program) (L : Nat → Bool) (op : Op) : Option AO :=
  match op with
  | .move x => (stripX L x).map .mv
  | .assign x => (stripX L x).map .mv
  | .pick c a b => match stripX L c, stripX L a, stripX L b with
    | some c, some a, some b => some (.pick c a b)
    | _, _, _ => none
  | .alloc t => match zeroT P t with
    | some [.nilp, .nils] => some (.allocN t [.nils])
    | some z => some (.alloc z)
    | none => none
  | .box t x => (stripX L x).map .box
  | .build t parts => match P.underlying t, zeroT P t with
    | some (.struct fields), some z =>
      match fields.toList.mapM (fun f => (P.info? f.type).map fun i => (f.offset, i.size)) with
      | some places => (stripParts P L (fun i => places.toArray[i]?) parts.toList).map (.build z)
      | none => none
    | some (.array _ elem), some z => match sizeT P elem with
      | some s => (stripParts P L (fun i => some (i * s, s)) parts.toList).map (.build z)
      | none => none
    | _, _ => none
  | .buildSlice t n parts => match P.underlying t with
    | some (.slice e) => match sizeT P e, zeroT P e, stripLits L 0 parts.toList with
      | some s, some z, some l => if (l.length = n ∧ n * s ≤ 16777216 ∧ z.length = s) ∧ 0 < s then some (.lits s l) else none
      | _, _, _ => none
    | _ => none
  | .load t a => match aggT P t, sizeT P t, stripX L a with
    | some g, some n, some a => if g = true ∨ n = 1 then some (.load g n a) else none
    | _, _, _ => none
  | .store t a x => match sizeT P t, stripX L a, stripX L x with
    | some n, some a, some x => some (.store n a x)
    | _, _, _ => none
  | .nilCheck x => (stripX L x).map .nilc
  | .binOp op t x y _ => match P.underlying t, stripX L x, stripX L y with
    | some .bool, some x, some y => match op with
      | .eql => some (.beq false x y)
      | .neq => some (.beq true x y)
      | _ => none
    | some (.struct fs), some x, some y => match op, flatF P 0 fs.toList with
      | .eql, some ks => if P.eqGuardType P.depth t = false ∧ P.stoodInHeld t = false then some (.eqs false ks x y) else none
      | .neq, some ks => if P.eqGuardType P.depth t = false ∧ P.stoodInHeld t = false then some (.eqs true ks x y) else none
      | _, _ => none
    | some _, some x, some y => some (.bin op x y)
    | _, _, _ => none
  | .unOp op _ x => (stripX L x).map (.un op)
  | .convert src dst x => match P.underlying src, P.underlying dst, stripX L x with
    | some (.int _), some (.int k), some x => some (.conv k x)
    | some (.slice e), some .string, some x => match P.underlying e with
      | some (.int .u8) => some (.toStr x)
      | _ => none
    | _, _, _ => none
  | .makeFunc (.func f) first cap => if first.isEmpty then (stripXs L cap.toList).map (.mkfn f) else none
  | .makeSlice t l c => match P.underlying t with
    | some (.slice e) => match P.info? e, zeroV P e, zeroT P e, stripX L l, stripX L c with
      | some i, some z, some zs, some l, some c => if zs.length = i.size ∧ 0 < i.size ∧ 0 < i.bytes ∧ z.okEl = true ∧ z.stamps = [] ∧ z.cells.length = i.size then some (.make i.size i.bytes z l c) else none
      | _, _, _, _, _ => none
    | _ => none
  | .slice t x lo hi none => match P.underlying t, stripX L x, stripXO L lo, stripXO L hi with
    | some .string, some x, some lo, some hi => some (.cutStr x lo hi)
    | some (.slice e), some x, some lo, some hi => match sizeT P e with
      | some s => some (.cutSl s x lo hi)
      | none => none
    | _, _, _, _ => none
  | .fieldAddr s x f => match P.underlying s, stripX L x with
    | some (.struct fields), some x => match fields[f]? with
      | some fl => match sizeT P fl.type with
        | some n => if 0 < n then some (.faddr fl.offset x) else none
        | none => none
      | none => none
    | _, _ => none
  | .field s x f => match P.underlying s, stripX L x with
    | some (.struct fields), some x => match fields[f]? with
      | some fl => match aggT P fl.type, sizeT P fl.type with
        | some g, some n => if g = true ∨ n = 1 then some (.field g n fl.offset x) else none
        | _, _ => none
      | none => none
    | _, _ => none
  | .indexAddr t x i => match P.underlying t, stripX L x, stripX L i with
    | some (.slice e), some x, some i => (sizeT P e).map fun s => .elS s x i
    | some (.array n e), some x, some i => (sizeT P e).map fun s => .elA n s x i
    | _, _, _ => none
  | .index t x i => match P.underlying t, stripX L x, stripX L i with
    | some .string, some x, some i => some (.idxStr x i)
    | some (.array n e), some x, some i => match aggT P e, sizeT P e with
      | some g, some s => if g = true ∨ s = 1 then some (.idxArr n g s x i) else none
      | _, _ => none
    | _, _, _ => none
  | .extract x i => (stripX L x).map (.extract · i)
  | .call { callee := .builtin b, args, argTypes } => match stripXs L args.toList with
    | some l => stripBuiltin P L b l argTypes.toList
    | none => none
  | .call { callee := .value f, args, .. } => match stripX L f, stripXs L args.toList with
    | some (.f f), some l => some (.call f l)
    | some f, some l => some (.callv f l)
    | _, _ => none
  | _ => none

end Go.Proofs.Ytpiafiapjmldgaa
