/-
  The values, states and code of an abstract machine over which the program's functions are proved: no memory, no order, no capacity.
-/
import GoSem.Claim
namespace Go.Proofs.Ytpiafiapjmldgaa
set_option linter.all false

theorem or_map {a b c d : Prop} (h : a ∨ b) (f : a → c) (g : b → d) : c ∨ d := h.elim (fun x => .inl (f x)) (fun x => .inr (g x))

/-- Abstract values. A slice bears its elements; an element of a struct type is an 'agg'. -/
inductive V where
  | undef
  | bool (b : Bool)
  | int (k : IntKind) (n : Int)
  | str (l : List UInt8)
  | nils
  | sl (σ : Option Nat) (sz : Nat) (xs : List V)
  | agg (cs : List V)
  | tup (vs : List V)
  | ptr (d off : Nat)
  | nilp
  | vw (σ : Nat) (t : Option Nat) (sz : Nat) (xs : List V)
  | elp (s : V) (i j : Nat)
  | fn (f : Nat) (cap : List V)
  | nilb (d t : Nat)
  | bb (e σ : Nat) (l : List UInt8)
  deriving Inhabited

def V.cells : V → List V
  | .agg cs => cs
  | v => [v]

def flat (xs : List V) : List V := xs.flatMap V.cells

/-- What is known of the memory behind a stamped slice. -/
inductive Stat where
  | own (top sz : Nat)
  | imm
  | dead
  deriving Inhabited

inductive AX where
  | l (t : Nat)
  | g (t : Nat)
  | c (v : V)
  | f (f : Nat)
  deriving Inhabited

inductive AO where
  | mv (x : AX)
  | pick (c a b : AX)
  | alloc (z : List V)
  | allocN (t : Nat) (z : List V)
  | box (x : AX)
  | build (z : List V) (parts : List (Nat × Nat × AX))
  | lits (sz : Nat) (parts : List AX)
  | load (agg : Bool) (n : Nat) (a : AX)
  | store (n : Nat) (a x : AX)
  | nilc (x : AX)
  | bin (op : BinOp) (x y : AX)
  | beq (neg : Bool) (x y : AX)
  | eqs (neg : Bool) (ks : List Nat) (x y : AX)
  | un (op : UnOp) (x : AX)
  | conv (k : IntKind) (x : AX)
  | toStr (x : AX)
  | mkfn (f : Nat) (caps : List AX)
  | make (sz bytes : Nat) (z : V) (len cap : AX)
  | cutStr (x : AX) (lo hi : Option AX)
  | cutSl (sz : Nat) (x : AX) (lo hi : Option AX)
  | faddr (off : Nat) (x : AX)
  | field (agg : Bool) (n off : Nat) (x : AX)
  | elS (sz : Nat) (x i : AX)
  | elA (n sz : Nat) (x i : AX)
  | idxStr (x i : AX)
  | idxArr (n : Nat) (agg : Bool) (sz : Nat) (x i : AX)
  | extract (x : AX) (i : Nat)
  | len (x : AX)
  | lenStr (x : AX)
  | lenArr (n : Nat)
  | min (x y : AX)
  | max (x y : AX)
  | append (sz bytes : Nat) (x y : AX)
  | appStr (e : Nat) (x y : AX)
  | call (f : Nat) (args : List AX)
  | callv (f : AX) (args : List AX)
  deriving Inhabited

/-- Where a result goes: nowhere, into a slot that lives in its statement alone, into a slot that is kept. -/
inductive AD where
  | no
  | l (d : Nat)
  | g (d : Nat)
  deriving Inhabited

structure AOp where
  dst : AD
  op : AO
  guard : Option (AX × Bool)
  deriving Inhabited

inductive AC where
  | skip
  | region (ops : List AOp)
  | drawn (ops : List AOp) (pre : List (List Nat)) (tail : List AOp)
  | seq (a b : AC)
  | cond (c : AX) (a b : AC)
  | block (id : Nat) (c : AC)
  | loop (c : AC)
  | exit (id : Nat)
  | ret
  deriving Inhabited

/-- Where a result lies at the end: in a slot, or in a variable to which a slot points. -/
inductive ARes where
  | t (t : Nat)
  | c (a : Nat) (agg : Bool) (n : Nat)
  deriving Inhabited

def ARes.slot : ARes → Nat
  | .t k => k
  | .c k _ _ => k

/-- A function of the abstract machine: which slots are kept between two statements, its results, its code. -/
structure AF where
  glob : List Nat
  results : List ARes
  body : AC
  deriving Inhabited

structure St where
  env : List (Nat × V)
  loc : List (Nat × V)
  box : List (Nat × List V)
  stat : List (Nat × Option Stat)
  deriving Inhabited

def look (l : List (Nat × V)) (t : Nat) : V :=
  match l with
  | [] => .undef
  | (k, v) :: r => if t = k then v else look r t

def lookB (l : List (Nat × List V)) (t : Nat) : Option (List V) :=
  match l with
  | [] => none
  | (k, v) :: r => if t = k then some v else lookB r t

def lookS (l : List (Nat × Option Stat)) (t : Nat) : Option Stat :=
  match l with
  | [] => none
  | (k, v) :: r => if t = k then v else lookS r t

def AD.num : AD → Nat
  | .no => 0
  | .l d => d
  | .g d => d

def St.put (st : St) (dst : AD) (v : V) : St :=
  match dst with
  | .no => st
  | .l d => { st with loc := (d, v) :: st.loc }
  | .g d => { st with env := (d, v) :: st.env }

def St.val (st : St) : AX → V
  | .l t => look st.loc t
  | .g t => look st.env t
  | .c v => v
  | .f f => .fn f []

/-! ## One operation -/

/-- What kind of step it was: 'n' reads no memory · 'lin', 'lout' read a variable of the function's own, of its caller's · 'c' a call that only reads · 'eout' a call that changes the caller's variables alone · 'e' anything else. -/
inductive Cls where
  | n | lin | lout | c | eout | e
  deriving DecidableEq, Inhabited

structure Delta where
  val : V
  nb : List (Nat × List V) := []
  ns : List (Nat × Option Stat) := []
  cls : Cls := .n
  deriving Inhabited

def Delta.apply (δ : Delta) (st : St) (dst : AD) : St :=
  St.put { st with box := δ.nb ++ st.box, stat := δ.ns ++ st.stat } dst δ.val

def inR (k : IntKind) (n : Int) : Prop :=
  match k with
  | .i64 => -9223372036854775808 ≤ n ∧ n ≤ 9223372036854775807
  | .u8 => 0 ≤ n ∧ n ≤ 255
  | k => k.wrap n = n

def bitsV (op : BinOp) (k : IntKind) (x y : Int) : Int :=
  match op with
  | .and => k.wrap (BitVec.ofInt k.bits x &&& BitVec.ofInt k.bits y).toNat
  | .or => k.wrap (BitVec.ofInt k.bits x ||| BitVec.ofInt k.bits y).toNat
  | _ => k.wrap (BitVec.ofInt k.bits x ^^^ BitVec.ofInt k.bits y).toNat

def binV (op : BinOp) (x y : V) : Option (Prop × V) :=
  match x, y with
  | .int k a, .int k' b =>
    match op with
    | .add => some (k = k' ∧ inR k (a + b), .int k (a + b))
    | .sub => some (k = k' ∧ inR k (a - b), .int k (a - b))
    | .mul => some (k = k' ∧ inR k (a * b), .int k (a * b))
    | .quo => some (k = k' ∧ b ≠ 0 ∧ inR k (a.tdiv b), .int k (a.tdiv b))
    | .rem => some (k = k' ∧ b ≠ 0, .int k (a.tmod b))
    | .and => some (k = k', .int k (bitsV .and k a b))
    | .or => some (k = k', .int k (bitsV .or k a b))
    | .xor => some (k = k', .int k (bitsV .xor k a b))
    | .shl => some (0 ≤ b ∧ b ≤ 60 ∧ inR k (a * 2 ^ b.toNat) ∧ b.toNat ≤ k.bits, .int k (a * 2 ^ b.toNat))
    | .shr => some (0 ≤ b ∧ b.toNat ≤ k.bits, .int k (a.fdiv (2 ^ b.toNat)))
    | .eql => some (k = k', .bool (decide (a = b)))
    | .neq => some (k = k', .bool (!decide (a = b)))
    | .lss => some (k = k', .bool (decide (a < b)))
    | .leq => some (k = k', .bool (decide (a ≤ b)))
    | .gtr => some (k = k', .bool (decide (b < a)))
    | .geq => some (k = k', .bool (decide (b ≤ a)))
    | _ => none
  | .str a, .str b =>
    match op with
    | .add => some (a.length + b.length ≤ 9223372036854775807, .str (a ++ b))
    | .eql => some (True, .bool (decide (a = b)))
    | .neq => some (True, .bool (!decide (a = b)))
    | _ => none
  | _, _ => none

/-- Cells that can be compared: numbers (0), bools (1), strings (2). -/
def eqK1 (k : Nat) : V → V → Prop
  | .int a _, .int b _ => k = 0 ∧ a = b
  | .bool _, .bool _ => k = 1
  | .str _, .str _ => k = 2
  | _, _ => False

def eqK : List Nat → List V → List V → Prop
  | [], [], [] => True
  | k :: r, x :: a, y :: b => eqK1 k x y ∧ eqK r a b
  | _, _, _ => False

def eqC1 : V → V → Bool
  | .int _ m, .int _ n => decide (m = n)
  | .bool m, .bool n => m == n
  | .str m, .str n => decide (m = n)
  | _, _ => true

def eqC : List V → List V → Bool
  | x :: a, y :: b => eqC1 x y && eqC a b
  | _, _ => true

def unV (op : UnOp) (x : V) : Option (Prop × V) :=
  match op, x with
  | .not, .bool b => some (True, .bool (!b))
  | .neg, .int k n => some (inR k (-n), .int k (-n))
  | _, _ => none

def alive (st : List (Nat × Option Stat)) (σ : Nat) : Prop :=
  match lookS st σ with
  | some (.own _ _) => True
  | some .imm => True
  | _ => False

def aliveAll (st : List (Nat × Option Stat)) : List Nat → Prop
  | [] => True
  | σ :: r => alive st σ ∧ aliveAll st r

def aliveV (st : List (Nat × Option Stat)) : V → Prop
  | .sl (some σ) _ _ => alive st σ
  | .vw σ _ _ _ => alive st σ
  | _ => True

/-- The elements of a slice. -/
def V.elems : V → Option (List V)
  | .sl _ _ xs => some xs
  | .vw _ _ _ xs => some xs
  | .nils => some []
  | _ => none

/-- A cell of memory: no struct, no tuple, not unknown. -/
def V.flat1 : V → Bool
  | .undef | .agg _ | .tup _ => false
  | _ => true

/-- A value that fills cells of memory. -/
def V.okB : V → Bool
  | .agg cs => cs.all V.flat1
  | .undef | .tup _ => false
  | _ => true

/-- A cell that may lie in a slice. -/
def V.cell1 : V → Bool
  | .bool _ | .int _ _ | .str _ | .nils | .sl _ _ _ | .vw _ _ _ _ => true
  | _ => false

/-- A value that may be an element of a slice. -/
def V.okEl : V → Bool
  | .agg cs => cs.all V.cell1
  | v => v.cell1

def V.stamp1 : V → List Nat
  | .sl (some σ) _ _ => [σ]
  | .vw σ _ _ _ => [σ]
  | .bb _ σ _ => [σ]
  | _ => []

/-- The stamps of a value that lies in no slice. -/
def V.stamps (x : V) : List Nat := x.cells.flatMap V.stamp1

def V.er1 : V → V
  | .sl _ sz xs => .sl none sz xs
  | .vw _ _ sz xs => .sl none sz xs
  | v => v

/-- A value as it stands when it has been put into a slice. -/
def V.er : V → V
  | .agg cs => .agg (cs.map V.er1)
  | v => v.er1

def byteV (b : UInt8) : V := .int .u8 b.toNat

def byteOf : V → Option UInt8
  | .int .u8 n => some (UInt8.ofNat n.toNat)
  | _ => none

def bytesOf : List V → Option (List UInt8)
  | [] => some []
  | x :: r => match byteOf x, bytesOf r with
    | some b, some l => some (b :: l)
    | _, _ => none

def part (agg : Bool) (n off : Nat) (cs : List V) : V :=
  if agg then .agg ((cs.drop off).take n) else cs.getD off .undef

def fillV (cells : List V) : List (Nat × Nat × V) → List V
  | [] => cells
  | (off, size, v) :: r => fillV (cells.take off ++ v.cells ++ cells.drop (off + size)) r

def partsOk (n : Nat) : List (Nat × Nat × V) → Prop
  | [] => True
  | (off, size, v) :: r => v.okB = true ∧ v.cells.length = size ∧ off + size ≤ n ∧ partsOk n r

/-- The stamps that are given up become unchangeable. -/
def toImm (l : List Nat) : List (Nat × Option Stat) := l.map fun σ => (σ, some .imm)

def elsOk (sz : Nat) (st : List (Nat × Option Stat)) : List V → Prop
  | [] => True
  | x :: r => x.cells.length = sz ∧ x.okEl = true ∧ aliveAll st x.stamps ∧ elsOk sz st r

def boundO (st : St) (d : Nat) : Option AX → Option Int
  | none => some d
  | some x => match st.val x with
    | .int _ n => some n
    | _ => none

/-- The most elements that an append or a make may reach: 2^40 bytes. -/
def roomOk (n bytes : Nat) : Prop := n * bytes ≤ 1099511627776

def astep (st : St) (d : Nat) (op : AO) : Option (Prop × Delta) :=
  match op with
  | .mv x => some (True, { val := st.val x })
  | .pick c a b => match st.val c with
    | .bool t => some (True, { val := if t then st.val a else st.val b })
    | _ => none
  | .alloc z => some (lookB st.box d = none, { val := .ptr d 0, nb := [(d, z)] })
  | .allocN t z => some (lookB st.box d = none, { val := .ptr d 0, nb := [(d, .nilb d t :: z)] })
  | .box x => some (lookB st.box d = none ∧ (st.val x).okB = true, { val := .ptr d 0, nb := [(d, (st.val x).cells)] })
  | .build z parts =>
    let ps := parts.map fun (o, s, x) => (o, s, st.val x)
    some (partsOk z.length ps, { val := .agg (fillV z ps) })
  | .lits sz parts =>
    let xs := parts.map st.val
    some (lookS st.stat (16 * d) = none ∧ elsOk sz st.stat xs,
      { val := .sl (some (16 * d)) sz (xs.map V.er), ns := (16 * d, some (.own xs.length sz)) :: toImm (xs.flatMap V.stamps), cls := .n })
  | .load agg n a => match st.val a with
    | .ptr b off => match lookB st.box b with
      | some cs => some (off + n ≤ cs.length, { val := part agg n off cs, cls := if 1000 ≤ b then .lout else .lin })
      | none => none
    | .elp s i j => match s.elems with
      | some xs => some (aliveV st.stat s ∧ i < xs.length ∧ j + n ≤ (xs.getD i .undef).cells.length, { val := part agg n j (xs.getD i .undef).cells, cls := .lin })
      | none => none
    | _ => none
  | .store n a x => match st.val a with
    | .ptr b off => match lookB st.box b with
      | some cs => some ((st.val x).okB = true ∧ (st.val x).cells.length = n ∧ off + n ≤ cs.length, { val := .undef, nb := [(b, cs.take off ++ (st.val x).cells ++ cs.drop (off + n))], cls := .e })
      | none => none
    | _ => none
  | .nilc x => match st.val x with
    | .ptr b off => some (True, { val := .ptr b off })
    | .elp s i j => some (True, { val := .elp s i j })
    | _ => none
  | .bin op x y => match binV op (st.val x) (st.val y) with
    | some (p, v) => some (p, { val := v })
    | none => none
  | .beq neg x y => match st.val x, st.val y with
    | .bool a, .bool b => some (True, { val := .bool (if neg then a != b else a == b) })
    | _, _ => none
  | .eqs neg ks x y => match st.val x, st.val y with
    | .agg a, .agg b => some (eqK ks a b, { val := .bool (if neg then !eqC a b else eqC a b) })
    | _, _ => none
  | .un op x => match unV op (st.val x) with
    | some (p, v) => some (p, { val := v })
    | none => none
  | .conv k x => match st.val x with
    | .int _ n => some (True, { val := .int k (k.wrap n) })
    | _ => none
  | .toStr x => match (st.val x).elems with
    | some xs => match bytesOf xs with
      | some l => some (aliveV st.stat (st.val x), { val := .str l, cls := .lin })
      | none => none
    | none => none
  | .mkfn f caps => some (True, { val := .fn f (caps.map st.val) })
  | .make sz bytes z len cap => match st.val len, st.val cap with
    | .int _ n, .int _ m => some (0 ≤ n ∧ n ≤ m ∧ roomOk m.toNat bytes ∧ lookS st.stat (16 * d) = none,
        { val := .sl (some (16 * d)) sz (List.replicate n.toNat z.er), ns := [(16 * d, some (.own n.toNat sz))] })
    | _, _ => none
  | .cutStr x lo hi => match st.val x with
    | .str s => match boundO st 0 lo, boundO st s.length hi with
      | some a, some b => some (0 ≤ a ∧ a ≤ b ∧ b ≤ s.length, { val := .str ((s.take b.toNat).drop a.toNat) })
      | _, _ => none
    | _ => none
  | .cutSl sz x lo hi => match st.val x with
    | .sl σ sz' xs => match boundO st 0 lo, boundO st xs.length hi with
      | some a, some b => some (sz = sz' ∧ aliveV st.stat (.sl σ sz' xs) ∧ 0 ≤ a ∧ a ≤ b ∧ b ≤ xs.length,
          { val := match σ, lo with
              | none, _ => .sl none sz ((xs.take b.toNat).drop a.toNat)
              | some s, none => (match lookS st.stat s with
                | some (.own top _) => if xs.length = top then .vw s (some top) sz (xs.take b.toNat) else .sl (some s) sz (xs.take b.toNat)
                | _ => .sl (some s) sz (xs.take b.toNat))
              | some s, some _ => .vw s none sz ((xs.take b.toNat).drop a.toNat) })
      | _, _ => none
    | .vw σ tt sz' xs => match boundO st 0 lo, boundO st xs.length hi with
      | some a, some b => some (sz = sz' ∧ aliveV st.stat (.vw σ tt sz' xs) ∧ 0 ≤ a ∧ a ≤ b ∧ b ≤ xs.length, { val := .vw σ none sz ((xs.take b.toNat).drop a.toNat) })
      | _, _ => none
    | .nils => match boundO st 0 lo, boundO st 0 hi with
      | some a, some b => some (a = 0 ∧ b = 0, { val := .nils })
      | _, _ => none
    | _ => none
  | .faddr off x => match st.val x with
    | .ptr b o => some (True, { val := .ptr b (o + off) })
    | .elp s i j => some (True, { val := .elp s i (j + off) })
    | _ => none
  | .field agg n off x => match st.val x with
    | .agg cs => some (off + n ≤ cs.length, { val := part agg n off cs })
    | _ => none
  | .elS sz x i => match st.val x, st.val i with
    | .sl σ sz' xs, .int _ n => some (sz = sz' ∧ aliveV st.stat (.sl σ sz' xs) ∧ 0 ≤ n ∧ n < xs.length, { val := .elp (.sl σ sz' xs) n.toNat 0 })
    | .vw σ tt sz' xs, .int _ n => some (sz = sz' ∧ aliveV st.stat (.vw σ tt sz' xs) ∧ 0 ≤ n ∧ n < xs.length, { val := .elp (.vw σ tt sz' xs) n.toNat 0 })
    | _, _ => none
  | .elA n sz x i => match st.val x, st.val i with
    | .ptr b off, .int _ k => some (0 ≤ k ∧ k < n, { val := .ptr b (off + k.toNat * sz) })
    | _, _ => none
  | .idxStr x i => match st.val x, st.val i with
    | .str s, .int _ n => some (0 ≤ n ∧ n < s.length, { val := .int .u8 (s.getD n.toNat 0).toNat })
    | _, _ => none
  | .idxArr n agg sz x i => match st.val x, st.val i with
    | .agg cs, .int _ k => some (0 ≤ k ∧ k < n ∧ k.toNat * sz + sz ≤ cs.length, { val := part agg sz (k.toNat * sz) cs })
    | _, _ => none
  | .extract x i => match st.val x with
    | .tup vs => some (i < vs.length, { val := vs.getD i .undef })
    | _ => none
  | .len x => match (st.val x).elems with
    | some xs => some (aliveV st.stat (st.val x), { val := .int .i64 xs.length })
    | none => none
  | .lenStr x => match st.val x with
    | .str s => some (True, { val := .int .i64 s.length })
    | _ => none
  | .lenArr n => some (True, { val := .int .i64 n })
  | .min x y => match st.val x, st.val y with
    | .int k a, .int k' b => some (k = k', { val := .int k (if b < a then b else a) })
    | _, _ => none
  | .max x y => match st.val x, st.val y with
    | .int k a, .int k' b => some (k = k', { val := .int k (if a < b then b else a) })
    | _, _ => none
  | .append sz bytes x y => match (st.val y).elems with
    | none => none
    | some ys => match st.val x with
      | .nils => some (lookS st.stat (16 * d) = none ∧ aliveV st.stat (st.val y) ∧ (∀ z ∈ ys, z.cells.length = sz) ∧ roomOk ys.length bytes,
          { val := .sl (some (16 * d)) sz ys, ns := [(16 * d, some (.own ys.length sz))], cls := .e })
      | .sl (some σ) sz' xs => match lookS st.stat σ with
        | some (.own top sz'') =>
          some (sz = sz' ∧ sz = sz'' ∧ aliveV st.stat (st.val y) ∧ (∀ z ∈ ys, z.cells.length = sz) ∧ roomOk (xs.length + ys.length) bytes ∧ xs.length = top,
            { val := .sl (some σ) sz (xs ++ ys), ns := [(σ, some (.own (top + ys.length) sz))], cls := .e })
        | _ => none
      | .vw σ (some tt) sz' xs => match lookS st.stat σ with
        | some (.own top sz'') =>
          some (sz = sz' ∧ sz = sz'' ∧ tt = top ∧ aliveV st.stat (st.val y) ∧ (∀ z ∈ ys, z.cells.length = sz) ∧ roomOk (xs.length + ys.length) bytes ∧ lookS st.stat (16 * d) = none,
            { val := .sl (some (16 * d)) sz (xs ++ ys), ns := [(σ, some .dead), (16 * d, some (.own (xs.length + ys.length) sz))], cls := .e })
        | _ => none
      | _ => none
  | .appStr e x y => match st.val y with
    | .str s => match st.val x with
      | .nils => some (lookS st.stat (16 * d) = none ∧ roomOk s.length 1, { val := .bb e (16 * d) s, ns := [(16 * d, some (.own s.length 1))], cls := .e })
      | .bb e' σ l => match lookS st.stat σ with
        | some (.own top sz) => some (e = e' ∧ l.length = top ∧ sz = 1 ∧ roomOk (l.length + s.length) 1, { val := .bb e σ (l ++ s), ns := [(σ, some (.own (l.length + s.length) 1))], cls := .e })
        | _ => none
      | _ => none
    | _ => none
  | .call _ _ => none
  | .callv _ _ => none

end Go.Proofs.Ytpiafiapjmldgaa
