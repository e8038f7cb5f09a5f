/-
  The values, states and code of an abstract machine over which the program's functions are proved: no memory, no order, no capacity.
  How an abstract value reads in memory, what a state of the abstract machine says of the world, and which changes of the world keep it.
  What a state of the abstract machine says of a frame and of the world, and how a step keeps it.
-/
import GoSem.Claim
import Derived.WalkKit
import Derived.Laws.AppendOwn
namespace Go.Proofs.YtnhhcfbigjpfeaaDoor
set_option linter.all false

section

theorem or_map {a b c d : Prop} (h : a ∨ b) (f : a → c) (g : b → d) : c ∨ d := h.elim (fun x => .inl (f x)) (fun x => .inr (g x))

/-- Abstract values. A slice bears its elements; an element of a struct type is an 'agg'. -/
inductive V where
  | undef
  | bool (b : Bool)
  | int (k : IntKind) (n : Int)
  | str (l : List UInt8)
  | nils
  | sl (σ : Option Nat) (sz : Nat) (xs : List V)
  | agg (cs : List V)
  | tup (vs : List V)
  | ptr (d off : Nat)
  | nilp
  | vw (σ : Nat) (t : Option Nat) (sz : Nat) (xs : List V)
  | elp (s : V) (i j : Nat)
  | fn (f : Nat) (cap : List V)
  | nilb (d t : Nat)
  | bb (e σ : Nat) (l : List UInt8)
  deriving Inhabited

def V.cells : V → List V
  | .agg cs => cs
  | v => [v]

def flat (xs : List V) : List V := xs.flatMap V.cells

/-- What is known of the memory behind a stamped slice. -/
inductive Stat where
  | own (top sz : Nat)
  | imm
  | dead
  deriving Inhabited

inductive AX where
  | l (t : Nat)
  | g (t : Nat)
  | c (v : V)
  | f (f : Nat)
  deriving Inhabited

inductive AO where
  | mv (x : AX)
  | pick (c a b : AX)
  | alloc (z : List V)
  | allocN (t : Nat) (z : List V)
  | box (x : AX)
  | build (z : List V) (parts : List (Nat × Nat × AX))
  | lits (sz : Nat) (parts : List AX)
  | load (agg : Bool) (n : Nat) (a : AX)
  | store (n : Nat) (a x : AX)
  | nilc (x : AX)
  | bin (op : BinOp) (x y : AX)
  | beq (neg : Bool) (x y : AX)
  | eqs (neg : Bool) (ks : List Nat) (x y : AX)
  | un (op : UnOp) (x : AX)
  | conv (k : IntKind) (x : AX)
  | toStr (x : AX)
  | mkfn (f : Nat) (caps : List AX)
  | make (sz bytes : Nat) (z : V) (len cap : AX)
  | cutStr (x : AX) (lo hi : Option AX)
  | cutSl (sz : Nat) (x : AX) (lo hi : Option AX)
  | faddr (off : Nat) (x : AX)
  | field (agg : Bool) (n off : Nat) (x : AX)
  | elS (sz : Nat) (x i : AX)
  | elA (n sz : Nat) (x i : AX)
  | idxStr (x i : AX)
  | idxArr (n : Nat) (agg : Bool) (sz : Nat) (x i : AX)
  | extract (x : AX) (i : Nat)
  | len (x : AX)
  | lenStr (x : AX)
  | lenArr (n : Nat)
  | min (x y : AX)
  | max (x y : AX)
  | append (sz bytes : Nat) (x y : AX)
  | appStr (e : Nat) (x y : AX)
  | call (f : Nat) (args : List AX)
  | callv (f : AX) (args : List AX)
  deriving Inhabited

/-- Where a result goes: nowhere, into a slot that lives in its statement alone, into a slot that is kept. -/
inductive AD where
  | no
  | l (d : Nat)
  | g (d : Nat)
  deriving Inhabited

structure AOp where
  dst : AD
  op : AO
  guard : Option (AX × Bool)
  deriving Inhabited

inductive AC where
  | skip
  | region (ops : List AOp)
  | drawn (ops : List AOp) (pre : List (List Nat)) (tail : List AOp)
  | seq (a b : AC)
  | cond (c : AX) (a b : AC)
  | block (id : Nat) (c : AC)
  | loop (c : AC)
  | exit (id : Nat)
  | ret
  deriving Inhabited

/-- Where a result lies at the end: in a slot, or in a variable to which a slot points. -/
inductive ARes where
  | t (t : Nat)
  | c (a : Nat) (agg : Bool) (n : Nat)
  deriving Inhabited

def ARes.slot : ARes → Nat
  | .t k => k
  | .c k _ _ => k

/-- A function of the abstract machine: which slots are kept between two statements, its results, its code. -/
structure AF where
  glob : List Nat
  results : List ARes
  body : AC
  deriving Inhabited

structure St where
  env : List (Nat × V)
  loc : List (Nat × V)
  box : List (Nat × List V)
  stat : List (Nat × Option Stat)
  deriving Inhabited

def look (l : List (Nat × V)) (t : Nat) : V :=
  match l with
  | [] => .undef
  | (k, v) :: r => if t = k then v else look r t

def lookB (l : List (Nat × List V)) (t : Nat) : Option (List V) :=
  match l with
  | [] => none
  | (k, v) :: r => if t = k then some v else lookB r t

def lookS (l : List (Nat × Option Stat)) (t : Nat) : Option Stat :=
  match l with
  | [] => none
  | (k, v) :: r => if t = k then v else lookS r t

def AD.num : AD → Nat
  | .no => 0
  | .l d => d
  | .g d => d

def St.put (st : St) (dst : AD) (v : V) : St :=
  match dst with
  | .no => st
  | .l d => { st with loc := (d, v) :: st.loc }
  | .g d => { st with env := (d, v) :: st.env }

def St.val (st : St) : AX → V
  | .l t => look st.loc t
  | .g t => look st.env t
  | .c v => v
  | .f f => .fn f []

/-! ## One operation -/

/-- What kind of step it was: 'n' reads no memory · 'lin', 'lout' read a variable of the function's own, of its caller's · 'c' a call that only reads · 'eout' a call that changes the caller's variables alone · 'e' anything else. -/
inductive Cls where
  | n | lin | lout | c | eout | e
  deriving DecidableEq, Inhabited

structure Delta where
  val : V
  nb : List (Nat × List V) := []
  ns : List (Nat × Option Stat) := []
  cls : Cls := .n
  deriving Inhabited

def Delta.apply (δ : Delta) (st : St) (dst : AD) : St :=
  St.put { st with box := δ.nb ++ st.box, stat := δ.ns ++ st.stat } dst δ.val

def inR (k : IntKind) (n : Int) : Prop :=
  match k with
  | .i64 => -9223372036854775808 ≤ n ∧ n ≤ 9223372036854775807
  | .u8 => 0 ≤ n ∧ n ≤ 255
  | k => k.wrap n = n

def bitsV (op : BinOp) (k : IntKind) (x y : Int) : Int :=
  match op with
  | .and => k.wrap (BitVec.ofInt k.bits x &&& BitVec.ofInt k.bits y).toNat
  | .or => k.wrap (BitVec.ofInt k.bits x ||| BitVec.ofInt k.bits y).toNat
  | _ => k.wrap (BitVec.ofInt k.bits x ^^^ BitVec.ofInt k.bits y).toNat

def binV (op : BinOp) (x y : V) : Option (Prop × V) :=
  match x, y with
  | .int k a, .int k' b =>
    match op with
    | .add => some (k = k' ∧ inR k (a + b), .int k (a + b))
    | .sub => some (k = k' ∧ inR k (a - b), .int k (a - b))
    | .mul => some (k = k' ∧ inR k (a * b), .int k (a * b))
    | .quo => some (k = k' ∧ b ≠ 0 ∧ inR k (a.tdiv b), .int k (a.tdiv b))
    | .rem => some (k = k' ∧ b ≠ 0, .int k (a.tmod b))
    | .and => some (k = k', .int k (bitsV .and k a b))
    | .or => some (k = k', .int k (bitsV .or k a b))
    | .xor => some (k = k', .int k (bitsV .xor k a b))
    | .shl => some (0 ≤ b ∧ b ≤ 60 ∧ inR k (a * 2 ^ b.toNat) ∧ b.toNat ≤ k.bits, .int k (a * 2 ^ b.toNat))
    | .shr => some (0 ≤ b ∧ b.toNat ≤ k.bits, .int k (a.fdiv (2 ^ b.toNat)))
    | .eql => some (k = k', .bool (decide (a = b)))
    | .neq => some (k = k', .bool (!decide (a = b)))
    | .lss => some (k = k', .bool (decide (a < b)))
    | .leq => some (k = k', .bool (decide (a ≤ b)))
    | .gtr => some (k = k', .bool (decide (b < a)))
    | .geq => some (k = k', .bool (decide (b ≤ a)))
    | _ => none
  | .str a, .str b =>
    match op with
    | .add => some (a.length + b.length ≤ 9223372036854775807, .str (a ++ b))
    | .eql => some (True, .bool (decide (a = b)))
    | .neq => some (True, .bool (!decide (a = b)))
    | _ => none
  | _, _ => none

/-- Cells that can be compared: numbers (0), bools (1), strings (2). -/
def eqK1 (k : Nat) : V → V → Prop
  | .int a _, .int b _ => k = 0 ∧ a = b
  | .bool _, .bool _ => k = 1
  | .str _, .str _ => k = 2
  | _, _ => False

def eqK : List Nat → List V → List V → Prop
  | [], [], [] => True
  | k :: r, x :: a, y :: b => eqK1 k x y ∧ eqK r a b
  | _, _, _ => False

def eqC1 : V → V → Bool
  | .int _ m, .int _ n => decide (m = n)
  | .bool m, .bool n => m == n
  | .str m, .str n => decide (m = n)
  | _, _ => true

def eqC : List V → List V → Bool
  | x :: a, y :: b => eqC1 x y && eqC a b
  | _, _ => true

def unV (op : UnOp) (x : V) : Option (Prop × V) :=
  match op, x with
  | .not, .bool b => some (True, .bool (!b))
  | .neg, .int k n => some (inR k (-n), .int k (-n))
  | _, _ => none

def alive (st : List (Nat × Option Stat)) (σ : Nat) : Prop :=
  match lookS st σ with
  | some (.own _ _) => True
  | some .imm => True
  | _ => False

def aliveAll (st : List (Nat × Option Stat)) : List Nat → Prop
  | [] => True
  | σ :: r => alive st σ ∧ aliveAll st r

def aliveV (st : List (Nat × Option Stat)) : V → Prop
  | .sl (some σ) _ _ => alive st σ
  | .vw σ _ _ _ => alive st σ
  | _ => True

/-- The elements of a slice. -/
def V.elems : V → Option (List V)
  | .sl _ _ xs => some xs
  | .vw _ _ _ xs => some xs
  | .nils => some []
  | _ => none

/-- A cell of memory: no struct, no tuple, not unknown. -/
def V.flat1 : V → Bool
  | .undef | .agg _ | .tup _ => false
  | _ => true

/-- A value that fills cells of memory. -/
def V.okB : V → Bool
  | .agg cs => cs.all V.flat1
  | .undef | .tup _ => false
  | _ => true

/-- A cell that may lie in a slice. -/
def V.cell1 : V → Bool
  | .bool _ | .int _ _ | .str _ | .nils | .sl _ _ _ | .vw _ _ _ _ => true
  | _ => false

/-- A value that may be an element of a slice. -/
def V.okEl : V → Bool
  | .agg cs => cs.all V.cell1
  | v => v.cell1

def V.stamp1 : V → List Nat
  | .sl (some σ) _ _ => [σ]
  | .vw σ _ _ _ => [σ]
  | .bb _ σ _ => [σ]
  | _ => []

/-- The stamps of a value that lies in no slice. -/
def V.stamps (x : V) : List Nat := x.cells.flatMap V.stamp1

def V.er1 : V → V
  | .sl _ sz xs => .sl none sz xs
  | .vw _ _ sz xs => .sl none sz xs
  | v => v

/-- A value as it stands when it has been put into a slice. -/
def V.er : V → V
  | .agg cs => .agg (cs.map V.er1)
  | v => v.er1

def byteV (b : UInt8) : V := .int .u8 b.toNat

def byteOf : V → Option UInt8
  | .int .u8 n => some (UInt8.ofNat n.toNat)
  | _ => none

def bytesOf : List V → Option (List UInt8)
  | [] => some []
  | x :: r => match byteOf x, bytesOf r with
    | some b, some l => some (b :: l)
    | _, _ => none

def part (agg : Bool) (n off : Nat) (cs : List V) : V :=
  if agg then .agg ((cs.drop off).take n) else cs.getD off .undef

def fillV (cells : List V) : List (Nat × Nat × V) → List V
  | [] => cells
  | (off, size, v) :: r => fillV (cells.take off ++ v.cells ++ cells.drop (off + size)) r

def partsOk (n : Nat) : List (Nat × Nat × V) → Prop
  | [] => True
  | (off, size, v) :: r => v.okB = true ∧ v.cells.length = size ∧ off + size ≤ n ∧ partsOk n r

/-- The stamps that are given up become unchangeable. -/
def toImm (l : List Nat) : List (Nat × Option Stat) := l.map fun σ => (σ, some .imm)

def elsOk (sz : Nat) (st : List (Nat × Option Stat)) : List V → Prop
  | [] => True
  | x :: r => x.cells.length = sz ∧ x.okEl = true ∧ aliveAll st x.stamps ∧ elsOk sz st r

def boundO (st : St) (d : Nat) : Option AX → Option Int
  | none => some d
  | some x => match st.val x with
    | .int _ n => some n
    | _ => none

/-- The most elements that an append or a make may reach: 2^40 bytes. -/
def roomOk (n bytes : Nat) : Prop := n * bytes ≤ 1099511627776

def astep (st : St) (d : Nat) (op : AO) : Option (Prop × Delta) :=
  match op with
  | .mv x => some (True, { val := st.val x })
  | .pick c a b => match st.val c with
    | .bool t => some (True, { val := if t then st.val a else st.val b })
    | _ => none
  | .alloc z => some (lookB st.box d = none, { val := .ptr d 0, nb := [(d, z)] })
  | .allocN t z => some (lookB st.box d = none, { val := .ptr d 0, nb := [(d, .nilb d t :: z)] })
  | .box x => some (lookB st.box d = none ∧ (st.val x).okB = true, { val := .ptr d 0, nb := [(d, (st.val x).cells)] })
  | .build z parts =>
    let ps := parts.map fun (o, s, x) => (o, s, st.val x)
    some (partsOk z.length ps, { val := .agg (fillV z ps) })
  | .lits sz parts =>
    let xs := parts.map st.val
    some (lookS st.stat (16 * d) = none ∧ elsOk sz st.stat xs,
      { val := .sl (some (16 * d)) sz (xs.map V.er), ns := (16 * d, some (.own xs.length sz)) :: toImm (xs.flatMap V.stamps), cls := .n })
  | .load agg n a => match st.val a with
    | .ptr b off => match lookB st.box b with
      | some cs => some (off + n ≤ cs.length, { val := part agg n off cs, cls := if 1000 ≤ b then .lout else .lin })
      | none => none
    | .elp s i j => match s.elems with
      | some xs => some (aliveV st.stat s ∧ i < xs.length ∧ j + n ≤ (xs.getD i .undef).cells.length, { val := part agg n j (xs.getD i .undef).cells, cls := .lin })
      | none => none
    | _ => none
  | .store n a x => match st.val a with
    | .ptr b off => match lookB st.box b with
      | some cs => some ((st.val x).okB = true ∧ (st.val x).cells.length = n ∧ off + n ≤ cs.length, { val := .undef, nb := [(b, cs.take off ++ (st.val x).cells ++ cs.drop (off + n))], cls := .e })
      | none => none
    | _ => none
  | .nilc x => match st.val x with
    | .ptr b off => some (True, { val := .ptr b off })
    | .elp s i j => some (True, { val := .elp s i j })
    | _ => none
  | .bin op x y => match binV op (st.val x) (st.val y) with
    | some (p, v) => some (p, { val := v })
    | none => none
  | .beq neg x y => match st.val x, st.val y with
    | .bool a, .bool b => some (True, { val := .bool (if neg then a != b else a == b) })
    | _, _ => none
  | .eqs neg ks x y => match st.val x, st.val y with
    | .agg a, .agg b => some (eqK ks a b, { val := .bool (if neg then !eqC a b else eqC a b) })
    | _, _ => none
  | .un op x => match unV op (st.val x) with
    | some (p, v) => some (p, { val := v })
    | none => none
  | .conv k x => match st.val x with
    | .int _ n => some (True, { val := .int k (k.wrap n) })
    | _ => none
  | .toStr x => match (st.val x).elems with
    | some xs => match bytesOf xs with
      | some l => some (aliveV st.stat (st.val x), { val := .str l, cls := .lin })
      | none => none
    | none => none
  | .mkfn f caps => some (True, { val := .fn f (caps.map st.val) })
  | .make sz bytes z len cap => match st.val len, st.val cap with
    | .int _ n, .int _ m => some (0 ≤ n ∧ n ≤ m ∧ roomOk m.toNat bytes ∧ lookS st.stat (16 * d) = none,
        { val := .sl (some (16 * d)) sz (List.replicate n.toNat z.er), ns := [(16 * d, some (.own n.toNat sz))] })
    | _, _ => none
  | .cutStr x lo hi => match st.val x with
    | .str s => match boundO st 0 lo, boundO st s.length hi with
      | some a, some b => some (0 ≤ a ∧ a ≤ b ∧ b ≤ s.length, { val := .str ((s.take b.toNat).drop a.toNat) })
      | _, _ => none
    | _ => none
  | .cutSl sz x lo hi => match st.val x with
    | .sl σ sz' xs => match boundO st 0 lo, boundO st xs.length hi with
      | some a, some b => some (sz = sz' ∧ aliveV st.stat (.sl σ sz' xs) ∧ 0 ≤ a ∧ a ≤ b ∧ b ≤ xs.length,
          { val := match σ, lo with
              | none, _ => .sl none sz ((xs.take b.toNat).drop a.toNat)
              | some s, none => (match lookS st.stat s with
                | some (.own top _) => if xs.length = top then .vw s (some top) sz (xs.take b.toNat) else .sl (some s) sz (xs.take b.toNat)
                | _ => .sl (some s) sz (xs.take b.toNat))
              | some s, some _ => .vw s none sz ((xs.take b.toNat).drop a.toNat) })
      | _, _ => none
    | .vw σ tt sz' xs => match boundO st 0 lo, boundO st xs.length hi with
      | some a, some b => some (sz = sz' ∧ aliveV st.stat (.vw σ tt sz' xs) ∧ 0 ≤ a ∧ a ≤ b ∧ b ≤ xs.length, { val := .vw σ none sz ((xs.take b.toNat).drop a.toNat) })
      | _, _ => none
    | .nils => match boundO st 0 lo, boundO st 0 hi with
      | some a, some b => some (a = 0 ∧ b = 0, { val := .nils })
      | _, _ => none
    | _ => none
  | .faddr off x => match st.val x with
    | .ptr b o => some (True, { val := .ptr b (o + off) })
    | .elp s i j => some (True, { val := .elp s i (j + off) })
    | _ => none
  | .field agg n off x => match st.val x with
    | .agg cs => some (off + n ≤ cs.length, { val := part agg n off cs })
    | _ => none
  | .elS sz x i => match st.val x, st.val i with
    | .sl σ sz' xs, .int _ n => some (sz = sz' ∧ aliveV st.stat (.sl σ sz' xs) ∧ 0 ≤ n ∧ n < xs.length, { val := .elp (.sl σ sz' xs) n.toNat 0 })
    | .vw σ tt sz' xs, .int _ n => some (sz = sz' ∧ aliveV st.stat (.vw σ tt sz' xs) ∧ 0 ≤ n ∧ n < xs.length, { val := .elp (.vw σ tt sz' xs) n.toNat 0 })
    | _, _ => none
  | .elA n sz x i => match st.val x, st.val i with
    | .ptr b off, .int _ k => some (0 ≤ k ∧ k < n, { val := .ptr b (off + k.toNat * sz) })
    | _, _ => none
  | .idxStr x i => match st.val x, st.val i with
    | .str s, .int _ n => some (0 ≤ n ∧ n < s.length, { val := .int .u8 (s.getD n.toNat 0).toNat })
    | _, _ => none
  | .idxArr n agg sz x i => match st.val x, st.val i with
    | .agg cs, .int _ k => some (0 ≤ k ∧ k < n ∧ k.toNat * sz + sz ≤ cs.length, { val := part agg sz (k.toNat * sz) cs })
    | _, _ => none
  | .extract x i => match st.val x with
    | .tup vs => some (i < vs.length, { val := vs.getD i .undef })
    | _ => none
  | .len x => match (st.val x).elems with
    | some xs => some (aliveV st.stat (st.val x), { val := .int .i64 xs.length })
    | none => none
  | .lenStr x => match st.val x with
    | .str s => some (True, { val := .int .i64 s.length })
    | _ => none
  | .lenArr n => some (True, { val := .int .i64 n })
  | .min x y => match st.val x, st.val y with
    | .int k a, .int k' b => some (k = k', { val := .int k (if b < a then b else a) })
    | _, _ => none
  | .max x y => match st.val x, st.val y with
    | .int k a, .int k' b => some (k = k', { val := .int k (if a < b then b else a) })
    | _, _ => none
  | .append sz bytes x y => match (st.val y).elems with
    | none => none
    | some ys => match st.val x with
      | .nils => some (lookS st.stat (16 * d) = none ∧ aliveV st.stat (st.val y) ∧ (∀ z ∈ ys, z.cells.length = sz) ∧ roomOk ys.length bytes,
          { val := .sl (some (16 * d)) sz ys, ns := [(16 * d, some (.own ys.length sz))], cls := .e })
      | .sl (some σ) sz' xs => match lookS st.stat σ with
        | some (.own top sz'') =>
          some (sz = sz' ∧ sz = sz'' ∧ aliveV st.stat (st.val y) ∧ (∀ z ∈ ys, z.cells.length = sz) ∧ roomOk (xs.length + ys.length) bytes ∧ xs.length = top,
            { val := .sl (some σ) sz (xs ++ ys), ns := [(σ, some (.own (top + ys.length) sz))], cls := .e })
        | _ => none
      | .vw σ (some tt) sz' xs => match lookS st.stat σ with
        | some (.own top sz'') =>
          some (sz = sz' ∧ sz = sz'' ∧ tt = top ∧ aliveV st.stat (st.val y) ∧ (∀ z ∈ ys, z.cells.length = sz) ∧ roomOk (xs.length + ys.length) bytes ∧ lookS st.stat (16 * d) = none,
            { val := .sl (some (16 * d)) sz (xs ++ ys), ns := [(σ, some .dead), (16 * d, some (.own (xs.length + ys.length) sz))], cls := .e })
        | _ => none
      | _ => none
  | .appStr e x y => match st.val y with
    | .str s => match st.val x with
      | .nils => some (lookS st.stat (16 * d) = none ∧ roomOk s.length 1, { val := .bb e (16 * d) s, ns := [(16 * d, some (.own s.length 1))], cls := .e })
      | .bb e' σ l => match lookS st.stat σ with
        | some (.own top sz) => some (e = e' ∧ l.length = top ∧ sz = 1 ∧ roomOk (l.length + s.length) 1, { val := .bb e σ (l ++ s), ns := [(σ, some (.own (l.length + s.length) 1))], cls := .e })
        | _ => none
      | _ => none
    | _ => none
  | .call _ _ => none
  | .callv _ _ => none
end

section

/-- A value without stamps and pointers, read in memory: no block of its own lies in 'O'. -/
inductive PRel (O : Nat → Prop) (w : World) : V → Value → Prop
  | undef (v : Value) : PRel O w .undef v
  | bool (b : Bool) : PRel O w (.bool b) (.bool b)
  | int (k : IntKind) (n : Int) : PRel O w (.int k n) (.int k n)
  | str (l : List UInt8) (s : ByteArray) (h : s.data.toList = l) : PRel O w (.str l) (.string s)
  | nils : PRel O w .nils (.slice none 0 0)
  | slnil (sz : Nat) (p : Option Addr) : PRel O w (.sl none sz []) (.slice p 0 0)
  | sl (sz : Nat) (xs : List V) (g off cap : Nat) (c : Array Value) (e : TypeId) (fr : Nat × Nat) (us : List Value)
      (hg : w.heap[g]? = some (.cells c e fr)) (hO : ¬ O g) (hcap : xs.length ≤ cap) (hmax : cap ≤ maxLen)
      (hsz : ∀ x ∈ xs, x.cells.length = sz) (hlen : us.length = (flat xs).length) (hus : ∀ k, k < us.length → c[off + k]? = us[k]?) (h1 : ∀ u ∈ us, u.oneCell' = true)
      (hel : ∀ k (h : k < (flat xs).length) (h' : k < us.length), PRel O w ((flat xs)[k]) (us[k])) :
      PRel O w (.sl none sz xs) (.slice (some ⟨g, off, none⟩) xs.length cap)
  | agg (cs : List V) (vs : List Value) (hlen : vs.length = cs.length) (hel : ∀ k (h : k < cs.length) (h' : k < vs.length), PRel O w (cs[k]) (vs[k])) :
      PRel O w (.agg cs) (.agg vs.toArray)

theorem PRel.mono {O O' : Nat → Prop} {w w' : World} (hf : ∀ g o, ¬ O g → w.heap[g]? = some o → ¬ O' g ∧ w'.heap[g]? = some o) {x : V} {v : Value}
    (h : PRel O w x v) : PRel O' w' x v := by
  induction h with
  | undef v => exact .undef v
  | bool b => exact .bool b
  | int k n => exact .int k n
  | str l s h => exact .str l s h
  | nils => exact .nils
  | slnil sz p => exact .slnil sz p
  | sl sz xs g off cap c e fr us hg hO hcap hmax hsz hlen hus h1c hel ih =>
    obtain ⟨h1, h2⟩ := hf g _ hO hg
    exact .sl sz xs g off cap c e fr us h2 h1 hcap hmax hsz hlen hus h1c ih
  | agg cs vs hlen hel ih => exact .agg cs vs hlen ih

/-- Where the names of the abstract machine lie: variables, stamped storage, and who owns a block. -/
structure Ghost where
  bx : Nat → Option Nat
  sp : Nat → Option Nat
  ow : Nat → Option (Bool × Nat)
  av : Nat → Prop

/-- The blocks that no value without a stamp lies in: those that are owned here, and those that the caller keeps to itself. -/
def Ghost.O (γ : Ghost) (g : Nat) : Prop := γ.ow g ≠ none ∨ γ.av g

abbrev Stats := List (Nat × Option Stat)

/-- A slice over the storage of a stamp that is owned. -/
def OwnSl (γ : Ghost) (w : World) (σ top sz : Nat) (pre : Bool) (xs : List V) (v : Value) : Prop :=
  (v = .slice none 0 0 ∧ xs = []) ∨
  ∃ (g off cap : Nat) (c : Array Value) (e : TypeId) (fr : Nat × Nat) (us : List Value), v = .slice (some ⟨g, off, none⟩) xs.length cap ∧ w.heap[g]? = some (.cells c e fr) ∧ xs.length ≤ cap ∧ cap ≤ maxLen ∧
    (∀ x ∈ xs, x.cells.length = sz) ∧ us.length = (flat xs).length ∧ (∀ k, k < us.length → c[off + k]? = us[k]?) ∧ (∀ u ∈ us, u.oneCell' = true) ∧
    (∀ k (h : k < (flat xs).length) (h' : k < us.length), PRel γ.O w ((flat xs)[k]) (us[k])) ∧
    ((γ.sp σ = some g ∧ off + xs.length * sz ≤ top * sz ∧ (pre = true → off = 0 ∧ fr = (0, 0) ∧ c.size = cap * sz ∧ xs.length ≤ top)) ∨
     (¬ γ.O g ∧ (pre = true → off = 0 ∧ xs.length < top)))

/-- A slice that surely lies at the head of the block of its stamp. -/
def PfSl (γ : Ghost) (w : World) (σ top sz : Nat) (xs : List V) (v : Value) : Prop :=
  (v = .slice none 0 0 ∧ xs = []) ∨ ∃ (g cap : Nat) (c : Array Value) (e : TypeId), v = .slice (some ⟨g, 0, none⟩) xs.length cap ∧ w.heap[g]? = some (.cells c e (0, 0)) ∧ γ.sp σ = some g ∧ c.size = cap * sz ∧ xs.length ≤ top ∧ xs.length ≤ cap ∧ cap ≤ maxLen

/-- The bytes of a buffer that is owned, in a block of type 'e'. -/
def BufSl (γ : Ghost) (w : World) (e σ : Nat) (l : List UInt8) (v : Value) : Prop :=
  (v = .slice none 0 0 ∧ l = []) ∨ ∃ (g cap : Nat) (c : Array Value), v = .slice (some ⟨g, 0, none⟩) l.length cap ∧ γ.sp σ = some g ∧ w.heap[g]? = some (.cells c e (0, 0)) ∧ c.size = cap ∧ l.length ≤ cap ∧ cap ≤ maxLen ∧
    ∀ k (h : k < l.length), c[k]? = some (.int .u8 l[k].toNat)

/-- A block of some type. -/
def OfType (w : World) (g t : Nat) : Prop := ∃ c fr, w.heap[g]? = some (.cells c t fr)

def _root_.Go.Value.isSl (v : Value) : Prop := ∃ a n c, v = .slice a n c

theorem PRel.isSl {O : Nat → Prop} {w : World} {sz : Nat} {xs : List V} {v : Value} (h : PRel O w (.sl none sz xs) v) : v.isSl := by
  cases h <;> exact ⟨_, _, _, rfl⟩

theorem OwnSl.isSl {γ : Ghost} {w : World} {σ top sz : Nat} {pre : Bool} {xs : List V} {v : Value} (h : OwnSl γ w σ top sz pre xs v) : v.isSl := by
  rcases h with ⟨rfl, _⟩ | ⟨_, _, _, _, _, _, _, rfl, _⟩ <;> exact ⟨_, _, _, rfl⟩

inductive VRel (S : Stats) (γ : Ghost) (w : World) : V → Value → Prop
  | base {x : V} {v : Value} (h : PRel γ.O w x v) : VRel S γ w x v
  | own {σ top sz : Nat} {xs : List V} {v : Value} (hs : lookS S σ = some (.own top sz)) (h : OwnSl γ w σ top sz true xs v) : VRel S γ w (.sl (some σ) sz xs) v
  | imm {σ sz : Nat} {xs : List V} {v : Value} (hs : lookS S σ = some .imm) (h : PRel γ.O w (.sl none sz xs) v) : VRel S γ w (.sl (some σ) sz xs) v
  | dead {σ sz : Nat} {xs : List V} {v : Value} (hs : lookS S σ = some .dead) (h : v.isSl) : VRel S γ w (.sl (some σ) sz xs) v
  | vown {σ top sz : Nat} {t : Option Nat} {xs : List V} {v : Value} (hs : lookS S σ = some (.own top sz)) (h : OwnSl γ w σ top sz false xs v) (ht : ∀ u, t = some u → u ≤ top) (hp : t = some top → PfSl γ w σ top sz xs v) : VRel S γ w (.vw σ t sz xs) v
  | vimm {σ sz : Nat} {t : Option Nat} {xs : List V} {v : Value} (hs : lookS S σ = some .imm) (h : PRel γ.O w (.sl none sz xs) v) : VRel S γ w (.vw σ t sz xs) v
  | vdead {σ sz : Nat} {t : Option Nat} {xs : List V} {v : Value} (hs : lookS S σ = some .dead) (h : v.isSl) : VRel S γ w (.vw σ t sz xs) v
  | agg (cs : List V) (vs : List Value) (hlen : vs.length = cs.length) (hel : ∀ k (h : k < cs.length) (h' : k < vs.length), VRel S γ w (cs[k]) (vs[k])) :
      VRel S γ w (.agg cs) (.agg vs.toArray)
  | tup (cs : List V) (vs : List Value) (hlen : vs.length = cs.length) (hel : ∀ k (h : k < cs.length) (h' : k < vs.length), VRel S γ w (cs[k]) (vs[k])) :
      VRel S γ w (.tup cs) (.tuple vs.toArray)
  | ptr {d off g : Nat} (h : γ.bx d = some g) : VRel S γ w (.ptr d off) (.pointer (some ⟨g, off, none⟩))
  | nilp : VRel S γ w .nilp (.pointer none)
  | elp (s : V) (i j : Nat) (sz : Nat) (xs : List V) (g off n cap : Nat) (hs : s = .sl none sz xs ∨ (∃ σ, s = .sl (some σ) sz xs) ∨ (∃ σ t, s = .vw σ t sz xs))
      (h : VRel S γ w s (.slice (some ⟨g, off, none⟩) n cap)) (hi : i < xs.length) : VRel S γ w (.elp s i j) (.pointer (some ⟨g, off + i * sz + j, none⟩))
  | fn (f : Nat) (cs : List V) (vs : List Value) (hlen : vs.length = cs.length) (hel : ∀ k (h : k < cs.length) (h' : k < vs.length), VRel S γ w (cs[k]) (vs[k])) :
      VRel S γ w (.fn f cs) (.func (.func f) #[] vs.toArray)
  | nilb {d t g : Nat} (h : γ.bx d = some g) (ht : OfType w g t) : VRel S γ w (.nilb d t) (.pointer none)
  | bb {e σ : Nat} {l : List UInt8} {v : Value} {s : Stat} (hi : v.isSl) (hs : lookS S σ = some s) (h : ∀ t z, s = .own t z → l.length ≤ t ∧ (t = l.length ∧ z = 1 → BufSl γ w e σ l v)) : VRel S γ w (.bb e σ l) v

/-- A change of the world after which every value reads as before. -/
structure Evo (S : Stats) (γ : Ghost) (w : World) (S' : Stats) (γ' : Ghost) (w' : World) : Prop where
  keep : ∀ g o, ¬ γ.O g → w.heap[g]? = some o → ¬ γ'.O g ∧ w'.heap[g]? = some o
  bx : ∀ d g, γ.bx d = some g → γ'.bx d = some g
  typ : ∀ g t, OfType w g t → OfType w' g t
  dead : ∀ σ, lookS S σ = some .dead → lookS S' σ = some .dead
  imm : ∀ σ, lookS S σ = some .imm → lookS S' σ = some .imm ∨ lookS S' σ = some .dead
  own : ∀ σ top sz, lookS S σ = some (.own top sz) → lookS S' σ = some .dead ∨
    (lookS S' σ = some .imm ∧ ∀ g o, γ.sp σ = some g → w.heap[g]? = some o → ¬ γ'.O g ∧ w'.heap[g]? = some o) ∨
    (∃ top', lookS S' σ = some (.own top' sz) ∧ top ≤ top' ∧ ∀ g c e fr, γ.sp σ = some g → w.heap[g]? = some (.cells c e fr) →
      (γ'.sp σ = some g ∧ ∃ c', w'.heap[g]? = some (.cells c' e fr) ∧ c'.size = c.size ∧ ∀ k, k < top * sz → c'[k]? = c[k]?) ∨
      (top < top' ∧ ¬ γ'.O g ∧ w'.heap[g]? = some (.cells c e fr)))

theorem length_flat {sz : Nat} : ∀ {xs : List V}, (∀ x ∈ xs, x.cells.length = sz) → (flat xs).length = xs.length * sz
  | [], _ => by simp [flat]
  | x :: r, h => by
    have := length_flat (xs := r) fun y hy => h y (List.mem_cons_of_mem _ hy)
    unfold flat at this ⊢
    rw [List.flatMap_cons, List.length_append, this, h x List.mem_cons_self, List.length_cons, Nat.add_mul]
    omega

theorem OwnSl.evo {S : Stats} {γ : Ghost} {w : World} {S' : Stats} {γ' : Ghost} {w' : World} (ev : Evo S γ w S' γ' w') {σ top sz : Nat} {pre : Bool} {xs : List V} {v : Value}
    (hs : lookS S σ = some (.own top sz)) (h : OwnSl γ w σ top sz pre xs v) :
    lookS S' σ = some .dead ∨ (lookS S' σ = some .imm ∧ PRel γ'.O w' (.sl none sz xs) v) ∨ ∃ top', lookS S' σ = some (.own top' sz) ∧ OwnSl γ' w' σ top' sz pre xs v := by
  rcases h with ⟨rfl, rfl⟩ | ⟨g, off, cap, c, e, fr, us, rfl, hg, hcap, hmax, hsz, hlen, hus, h1c, hel, hown⟩
  · rcases ev.own σ top sz hs with h | ⟨h, _⟩ | ⟨top', h, _⟩
    · exact .inl h
    · exact .inr (.inl ⟨h, .slnil sz none⟩)
    · exact .inr (.inr ⟨top', h, .inl ⟨rfl, rfl⟩⟩)
  · have hel' : ∀ k (h : k < (flat xs).length) (h' : k < us.length), PRel γ'.O w' ((flat xs)[k]) (us[k]) := fun k h h' => (hel k h h').mono ev.keep
    have hl := length_flat hsz
    rcases ev.own σ top sz hs with h | ⟨h, h2⟩ | ⟨top', h, hle, h2⟩
    · exact .inl h
    · refine .inr (.inl ⟨h, ?_⟩)
      rcases hown with ⟨hsp, _, _⟩ | ⟨hO, _⟩
      · obtain ⟨h3, h4⟩ := h2 g _ hsp hg
        exact .sl sz xs g off cap c e fr us h4 h3 hcap hmax hsz hlen hus h1c hel'
      · obtain ⟨h3, h4⟩ := ev.keep g _ hO hg
        exact .sl sz xs g off cap c e fr us h4 h3 hcap hmax hsz hlen hus h1c hel'
    · refine .inr (.inr ⟨top', h, .inr ?_⟩)
      rcases hown with ⟨hsp, hex, hpre⟩ | ⟨hO, hpre⟩
      · rcases h2 g c e fr hsp hg with ⟨h3, c', h4, h5, h6⟩ | ⟨h3, h4, h5⟩
        · refine ⟨g, off, cap, c', e, fr, us, rfl, h4, hcap, hmax, hsz, hlen, ?_, h1c, hel', .inl ⟨h3, ?_, ?_⟩⟩
          · intro k hk
            rw [h6 _ (by omega)]
            exact hus k hk
          · exact Nat.le_trans hex (Nat.mul_le_mul_right _ hle)
          · intro hp; obtain ⟨p1, p2, p3, p4⟩ := hpre hp; exact ⟨p1, p2, by omega, by omega⟩
        · refine ⟨g, off, cap, c, e, fr, us, rfl, h5, hcap, hmax, hsz, hlen, hus, h1c, hel', .inr ⟨h4, ?_⟩⟩
          intro hp
          obtain ⟨p1, p2, p3, p4⟩ := hpre hp
          exact ⟨p1, by omega⟩
      · obtain ⟨h3, h4⟩ := ev.keep g _ hO hg
        refine ⟨g, off, cap, c, e, fr, us, rfl, h4, hcap, hmax, hsz, hlen, hus, h1c, hel', .inr ⟨h3, ?_⟩⟩
        intro hp
        obtain ⟨p1, p2⟩ := hpre hp
        exact ⟨p1, by omega⟩

theorem PfSl.evo {S : Stats} {γ : Ghost} {w : World} {S' : Stats} {γ' : Ghost} {w' : World} (ev : Evo S γ w S' γ' w') {σ top sz : Nat} {xs : List V} {v : Value}
    (hs : lookS S σ = some (.own top sz)) (hs' : lookS S' σ = some (.own top sz)) (h : PfSl γ w σ top sz xs v) : PfSl γ' w' σ top sz xs v := by
  rcases h with h | ⟨g, cap, c, e, rfl, h1, h2, h3, h4, h5, h6⟩
  · exact .inl h
  · rcases ev.own σ top sz hs with q | ⟨q, _⟩ | ⟨top', q, hle, q2⟩
    · rw [hs'] at q; cases q
    · rw [hs'] at q; cases q
    · rw [hs'] at q
      cases q
      rcases q2 g c e (0, 0) h2 h1 with ⟨r1, c', r2, r3, _⟩ | ⟨r1, _⟩
      · exact .inr ⟨g, cap, c', e, rfl, r2, r1, by rw [r3]; exact h3, h4, h5, h6⟩
      · omega

theorem own_le {S : Stats} {γ : Ghost} {w : World} {S' : Stats} {γ' : Ghost} {w' : World} (ev : Evo S γ w S' γ' w') {σ top sz t' s' : Nat} (hs : lookS S σ = some (.own top sz)) (hs' : lookS S' σ = some (.own t' s')) : top ≤ t' ∧ s' = sz := by
  rcases ev.own σ top sz hs with q | ⟨q, _⟩ | ⟨top', q, hle, _⟩
  · rw [hs'] at q; cases q
  · rw [hs'] at q; cases q
  · rw [hs'] at q; cases q; exact ⟨hle, rfl⟩

theorem VRel.evo {S : Stats} {γ : Ghost} {w : World} {S' : Stats} {γ' : Ghost} {w' : World} (ev : Evo S γ w S' γ' w') {x : V} {v : Value}
    (h : VRel S γ w x v) : VRel S' γ' w' x v := by
  induction h with
  | base h => exact .base (h.mono ev.keep)
  | own hs h =>
    have hi := h.isSl
    rcases h.evo ev hs with h | ⟨h, h2⟩ | ⟨t, h, h2⟩
    · exact .dead h hi
    · exact .imm h h2
    · exact .own h h2
  | imm hs h =>
    rcases ev.imm _ hs with h2 | h2
    · exact .imm h2 (h.mono ev.keep)
    · exact .dead h2 h.isSl
  | dead hs h => exact .dead (ev.dead _ hs) h
  | @vown σ top sz t xs v hs h ht hp =>
    have hi := h.isSl
    rcases h.evo ev hs with h' | ⟨h', h2⟩ | ⟨top', h', h2⟩
    · exact .vdead h' hi
    · exact .vimm h' h2
    · have h3 := (own_le ev hs h').1
      refine .vown h' h2 (fun u q => Nat.le_trans (ht u q) h3) (fun q => ?_)
      obtain rfl : top' = top := Nat.le_antisymm (ht _ q) h3
      exact (hp q).evo ev hs h'
  | vimm hs h =>
    rcases ev.imm _ hs with h2 | h2
    · exact .vimm h2 (h.mono ev.keep)
    · exact .vdead h2 h.isSl
  | vdead hs h => exact .vdead (ev.dead _ hs) h
  | agg cs vs hlen hel ih => exact .agg cs vs hlen ih
  | tup cs vs hlen hel ih => exact .tup cs vs hlen ih
  | ptr h => exact .ptr (ev.bx _ _ h)
  | nilp => exact .nilp
  | elp s i j sz xs g off n cap hs h hi ih => exact .elp s i j sz xs g off n cap hs ih hi
  | fn f cs vs hlen hel ih => exact .fn f cs vs hlen ih
  | nilb h ht => exact .nilb (ev.bx _ _ h) (ev.typ _ _ ht)
  | @bb e σ l v s hi hs h =>
    cases s with
    | dead => exact .bb hi (ev.dead _ hs) (fun t z q => by cases q)
    | imm =>
      rcases ev.imm _ hs with q | q
      · exact .bb hi q (fun t z q => by cases q)
      · exact .bb hi q (fun t z q => by cases q)
    | own t z =>
      obtain ⟨h1, h2⟩ := h t z rfl
      rcases ev.own _ _ _ hs with q | ⟨q, _⟩ | ⟨t', q, q1, q2⟩
      · exact .bb hi q (fun t z q => by cases q)
      · exact .bb hi q (fun t z q => by cases q)
      · refine .bb hi q (fun t2 z2 q3 => ?_)
        cases q3
        refine ⟨by omega, fun ⟨q4, q5⟩ => ?_⟩
        obtain rfl : t = t' := by omega
        rcases h2 ⟨q4, q5⟩ with ⟨r1, r2⟩ | ⟨g, cap, c, r1, r2, r3, r4, r5, r6, r7⟩
        · exact .inl ⟨r1, r2⟩
        · rcases q2 g c e (0, 0) r2 r3 with ⟨u1, c', u2, u3, u4⟩ | ⟨u1, _⟩
          · exact .inr ⟨g, cap, c', r1, u1, u2, by omega, r5, r6, fun k hk => by rw [u4 k (by subst q5; omega)]; exact r7 k hk⟩
          · omega
end

section

/-- The call's own frame: the world in which it began, and the older blocks that it may change. -/
structure Ctx where
  w0 : World
  init : Nat → Prop
  av : Nat → Prop
  lens : Nat → Option Nat
  l1000 : ∀ d g, lens d = some g → 1000 ≤ d

def Ctx.may (K : Ctx) (g : Nat) : Prop := K.w0.heap.size ≤ g ∨ K.init g

structure Ctx.frame (K : Ctx) (w : World) : Prop where
  os : w.os = K.w0.os
  tape : w.tape = K.w0.tape
  output : w.output = K.w0.output
  size : K.w0.heap.size ≤ w.heap.size
  same : ∀ g, g < K.w0.heap.size → ¬ K.init g → w.heap[g]? = K.w0.heap[g]?
  typ : ∀ g t, OfType K.w0 g t → OfType w g t

structure HInv (K : Ctx) (B : List (Nat × List V)) (S : Stats) (γ : Ghost) (w : World) : Prop where
  box : ∀ d cs, lookB B d = some cs → ∃ g c e, γ.bx d = some g ∧ γ.ow g = some (true, d) ∧ w.heap[g]? = some (.cells c e (0, 0)) ∧ c.size = cs.length ∧
    ∀ k (h : k < cs.length) (h' : k < c.size), VRel S γ w cs[k] c[k]
  bxd : (∀ d g, γ.bx d = some g → (lookB B d).isSome = true) ∧ ∀ d g, K.lens d = some g → γ.bx d = some g
  sp : ∀ σ top sz, lookS S σ = some (.own top sz) → (γ.sp σ = none ∧ top = 0) ∨
    ∃ g c e, γ.sp σ = some g ∧ γ.ow g = some (false, σ) ∧ w.heap[g]? = some (.cells c e (0, 0)) ∧ top * sz ≤ c.size
  ow : ∀ g x, γ.ow g = some x → g < w.heap.size ∧ K.may g
  av : γ.av = K.av ∧ ∀ g, γ.av g → g < w.heap.size ∧ γ.ow g = none
  frame : K.frame w

/-- The slots of a frame. -/
structure ERel (L : Nat → Bool) (n : Nat) (st : St) (γ : Ghost) (a : Act) (w : World) : Prop where
  defers : a.defers = []
  size : a.tmps.size = n
  slot : ∀ t, VRel st.stat γ w (if L t then look st.loc t else look st.env t) (a.tmps.getD t undef)

structure SRel (L : Nat → Bool) (n : Nat) (K : Ctx) (st : St) (γ : Ghost) (a : Act) (w : World) : Prop where
  h : HInv K st.box st.stat γ w
  e : ERel L n st γ a w

/-- A tag that fits: kept slots and slots of a statement are told apart by 'L'; there is such a slot. -/
def AD.ok (L : Nat → Bool) (n : Nat) : AD → Prop
  | .no => True
  | .l d => L d = true ∧ d < n
  | .g d => L d = false ∧ d < n

def AD.toOpt : AD → Option Tmp
  | .no => none
  | .l d => some d
  | .g d => some d

def AX.ok (L : Nat → Bool) : AX → Prop
  | .l t => L t = true
  | .g t => L t = false
  | _ => True

theorem getD_setIfInBounds (a : Array Value) (d t : Nat) (v u : Value) (h : d < a.size) :
    (a.setIfInBounds d v).getD t u = if t = d then v else a.getD t u := by
  simp only [Array.getD_eq_getD_getElem?, Array.getElem?_setIfInBounds]
  by_cases e : d = t
  · subst e; simp [h]
  · simp [e, Ne.symm e]

theorem ERel.evo {L : Nat → Bool} {n : Nat} {st st' : St} {γ γ' : Ghost} {a : Act} {w w' : World} (h : ERel L n st γ a w)
    (ev : Evo st.stat γ w st'.stat γ' w') (h1 : st'.env = st.env) (h2 : st'.loc = st.loc) : ERel L n st' γ' a w' :=
  ⟨h.defers, h.size, fun t => by rw [h1, h2]; exact (h.slot t).evo ev⟩

theorem ERel.put {L : Nat → Bool} {n : Nat} {st : St} {γ : Ghost} {a : Act} {w : World} (h : ERel L n st γ a w) {dst : AD} (hd : dst.ok L n) {x : V} {v : Value}
    (hv : VRel st.stat γ w x v) : ERel L n (st.put dst x) γ (a.put dst.toOpt v) w := by
  cases dst with
  | no => exact h
  | l d =>
    obtain ⟨h1, h2⟩ := hd
    refine ⟨h.defers, by simp [Act.put, AD.toOpt, h.size], fun t => ?_⟩
    have hs := h.slot t
    simp only [Act.put, AD.toOpt, St.put, getD_setIfInBounds _ _ _ _ _ (h.size ▸ h2)]
    by_cases e : t = d
    · subst e; simpa [h1, look] using hv
    · simpa [look, e] using hs
  | g d =>
    obtain ⟨h1, h2⟩ := hd
    refine ⟨h.defers, by simp [Act.put, AD.toOpt, h.size], fun t => ?_⟩
    have hs := h.slot t
    simp only [Act.put, AD.toOpt, St.put, getD_setIfInBounds _ _ _ _ _ (h.size ▸ h2)]
    by_cases e : t = d
    · subst e; simpa [h1, look] using hv
    · simpa [look, e] using hs

theorem put_box (st : St) (dst : AD) (v : V) : (st.put dst v).box = st.box := by cases dst <;> rfl
theorem put_stat (st : St) (dst : AD) (v : V) : (st.put dst v).stat = st.stat := by cases dst <;> rfl

/-- THE STEP: the world has changed so that all values read as before; what is owned lies where it is said to lie; the result reads as it is said. -/
theorem SRel.step {L : Nat → Bool} {n : Nat} {K : Ctx} {st : St} {γ γ' : Ghost} {a : Act} {w w' : World} (h : SRel L n K st γ a w) {δ : Delta} {dst : AD} (hd : dst.ok L n) {v : Value}
    (ev : Evo st.stat γ w (δ.ns ++ st.stat) γ' w') (hh : HInv K (δ.nb ++ st.box) (δ.ns ++ st.stat) γ' w') (hv : VRel (δ.ns ++ st.stat) γ' w' δ.val v) :
    SRel L n K (δ.apply st dst) γ' (a.put dst.toOpt v) w' := by
  have h1 : ERel L n { st with box := δ.nb ++ st.box, stat := δ.ns ++ st.stat } γ' a w' := h.e.evo ev rfl rfl
  refine ⟨?_, h1.put hd hv⟩
  rw [Delta.apply, put_box, put_stat]
  exact hh

/-- A step that leaves the world alone, and makes nothing. -/
theorem Evo.refl (S : Stats) (γ : Ghost) (w : World) : Evo S γ w S γ w :=
  ⟨fun g o h1 h2 => ⟨h1, h2⟩, fun d g h => h, fun g t h => h, fun σ h => h, fun σ h => .inl h,
    fun σ top sz h => .inr (.inr ⟨top, h, Nat.le_refl _, fun g c e fr h1 h2 => .inl ⟨h1, c, h2, rfl, fun k _ => rfl⟩⟩)⟩

theorem SRel.pure {L : Nat → Bool} {n : Nat} {K : Ctx} {st : St} {γ : Ghost} {a : Act} {w : World} (h : SRel L n K st γ a w) {dst : AD} (hd : dst.ok L n) {x : V} {v : Value}
    (hv : VRel st.stat γ w x v) : SRel L n K (st.put dst x) γ (a.put dst.toOpt v) w :=
  ⟨by rw [put_box, put_stat]; exact h.h, h.e.put hd hv⟩

/-- The value of an operand, as the state has it. -/
theorem SRel.val {L : Nat → Bool} {n : Nat} {K : Ctx} {st : St} {γ : Ghost} {a : Act} {w : World} (h : SRel L n K st γ a w) (t : Nat) :
    VRel st.stat γ w (st.val (if L t then .l t else .g t)) (a.eval (.tmp t)) := by
  have := h.e.slot t
  by_cases e : L t = true
  · simpa [e, St.val, Act.eval] using this
  · simpa [e, St.val, Act.eval] using this
end

end Go.Proofs.YtnhhcfbigjpfeaaDoor
